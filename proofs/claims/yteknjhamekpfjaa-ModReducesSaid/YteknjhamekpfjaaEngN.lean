/- The engine, part N: a function's code: what 'vc' says holds of the program's own run. -/
import Derived.Test.YteknjhamekpfjaaEngO
import Derived.Deep.Quiet
set_option linter.unusedVariables false
set_option linter.unusedSimpArgs false
namespace Go.Eng
open Go.RowKit

variable {P : Program} {G : Nat → AV}

theorem absK'_ok (hs : List Nat) (tag : Nat) (o : Oper) : OkK P G (absK' P G hs tag o) o := by
  unfold absK'
  cases h : absK P G hs tag o with
  | none => exact .eff (fun N fr st K a w κ next Qc hf hst hv hn => (show False from hv).elim) rfl
  | some k => exact absK_ok h
/-- What an operation as the engine sees it has to do with the program's own. -/
structure Fits (P : Program) (G : Nat → AV) (N : Nat) (ops : Array Oper) (o : Oper) (ao : AO) : Prop where
  dst : ao.dst = o.dst
  lt : ∀ d, o.dst = some d → d < N
  ok : Eff P G ao.k o
  g : (o.guard = none ∧ ao.g = none) ∨ ∃ j want g, o.guard = some (j, want) ∧ ao.g = some (g, want) ∧ (ops[j]?).bind (·.dst) = some g
theorem absO_spec {N : Nat} {hs : List Nat} {tag : Nat} {ops : Array Oper} {o : Oper} {ao : AO} (h : absO P G N hs tag ops o = some ao) : Fits P G N ops o ao := by
  unfold absO at h
  split at h
  · rename_i hd
    have hd' : ∀ d, o.dst = some d → d < N := fun d e => by rw [e] at hd; simpa [dstOk] using hd
    split at h
    · rename_i hg
      cases h
      exact ⟨rfl, hd', (absK'_ok hs tag o).1, .inl ⟨hg, rfl⟩⟩
    · rename_i j want hg
      split at h
      · rename_i g hgd
        cases h
        exact ⟨rfl, hd', (absK'_ok hs tag o).1, .inr ⟨j, want, g, hg, rfl, hgd⟩⟩
      · cases h
  · cases h

theorem yielded_of {N : Nat} {w : World} {κ : Im} {fr : Fr} {a : Act} (hf : FrR N w κ fr a) {ops : Array Oper} {j g : Nat} (hg : (ops[j]?).bind (·.dst) = some g) {b : Bool} (hb : fr.get g = some (.bool b)) : yielded ops a.tmps j = some b := by
  have hv := (hf.slot g _ hb).bool_inv
  have hlt : g < a.tmps.size := by
    rcases Nat.lt_or_ge g a.tmps.size with q | q
    · exact q
    · have : a.tmps.getD g undef = undef := by simp [Array.getD, Nat.not_lt.2 q]
      rw [this] at hv; cases hv
  have : a.tmps[g]? = some (.bool b) := by
    rw [Array.getElem?_eq_getElem hlt]
    have e : a.tmps.getD g undef = a.tmps[g] := by simp [Array.getD, hlt]
    rw [← e, hv]
  simp [yielded, hg, this]

theorem yielded_none {N : Nat} {w : World} {κ : Im} {fr : Fr} {a : Act} (hf : FrR N w κ fr a) {ops : Array Oper} {j g : Nat} (hg : (ops[j]?).bind (·.dst) = some g) {xs : Array Value} (hb : fr.get g = some (.v (.tuple xs))) : yielded ops a.tmps j = none := by
  have hv := (hf.slot g _ hb).v_inv
  unfold yielded
  rw [hg]
  simp only [Option.bind_some]
  split
  · rename_i b hb'
    have : a.tmps.getD g undef = .bool b := by
      have hlt := (Array.getElem?_eq_some_iff.1 hb').1
      have := (Array.getElem?_eq_some_iff.1 hb').2
      simp [Array.getD, hlt, this]
    rw [this] at hv; cases hv
  · rfl

theorem FrR.putFr {N : Nat} {w : World} {κ : Im} {fr : Fr} {a : Act} (h : FrR N w κ fr a) {d : Option Nat} (hd : ∀ i, d = some i → i < N) {x : AV} {v : Value} (hx : VR w κ x v) : FrR N w κ (putFr d x fr) (a.put d v) := by
  cases d with
  | none => exact h
  | some i => exact h.put (hd i rfl) hx

theorem wanted_of {N : Nat} {w : World} {κ : Im} {fr : Fr} {a : Act} (hf : FrR N w κ fr a) {ops : Array Oper} {o : Oper} {ao : AO}
    (hg : (o.guard = none ∧ ao.g = none) ∨ ∃ j want g, o.guard = some (j, want) ∧ ao.g = some (g, want) ∧ (ops[j]?).bind (·.dst) = some g) {yes no : Prop} (h : vcG ao.g fr yes no) :
    (Region.wanted o (yielded ops a.tmps) = true ∧ yes) ∨ (Region.wanted o (yielded ops a.tmps) = false ∧ no) := by
  rcases hg with ⟨e1, e2⟩ | ⟨j, want, g, e1, e2, e3⟩
  · rw [e2] at h
    exact .inl ⟨by simp [Region.wanted, e1], h⟩
  · rw [e2] at h
    rcases vcG_elim h with ⟨q, _⟩ | ⟨j', want', b, q1, q2, q3⟩ | ⟨j', want', xs, q1, q2, q3⟩
    · cases q
    · cases q1
      have hy := yielded_of hf e3 q2
      rcases q3 with ⟨rfl, hyes⟩ | ⟨rfl, hno⟩
      · exact .inl ⟨by simp [Region.wanted, e1, hy], hyes⟩
      · refine .inr ⟨?_, hno⟩
        simp [Region.wanted, e1, hy]
    · cases q1
      refine .inr ⟨?_, q3⟩
      simp [Region.wanted, e1, yielded_none hf e3 q2]

/-- One operation. -/
theorem vcI_sound {N : Nat} {ops : Array Oper} {o : Oper} {ao : AO} (hF : Fits P G N ops o ao) {fr : Fr} {st : St} {K : Fr → St → Prop} (hv : vcI P G ao K fr st) {a : Act} {w : World} {κ : Im} (hf : FrR N w κ fr a) (hs : StR G w κ st)
    {next : Act → World → Prop} {Qc : Exit → Act → World → Prop} (hn : ∀ fr' st' κ' a' w', K fr' st' → FrR N w' κ' fr' a' → StR G w' κ' st' → Stp (own st) w κ w' κ' → Mine (own st) w (own st') → next a' w') :
    if Region.wanted o (yielded ops a.tmps) then o.wp P a w next Qc ∨ (o.asks P a w ∧ LetsOut Qc) else next (a.put o.dst undef) w := by
  obtain ⟨e1, e2, e3, e4⟩ := hF
  rcases wanted_of hf e4 (show vcG ao.g fr _ _ from hv) with ⟨hw, hy⟩ | ⟨hw, hn'⟩
  · rw [if_pos hw]
    refine .inl (e3 N fr st _ a w κ _ Qc hf hs hy ?_)
    intro x v st' κ' w' hK hvr hst hstp hmine
    exact hn _ st' κ' _ w' hK (by rw [← e1]; exact (hf.mono hstp.ext).putFr (by rw [e1]; exact e2) hvr) hst hstp hmine
  · rw [if_neg (by simp [hw])]
    exact hn _ st κ _ w hn' (by rw [← e1]; exact hf.putFr (by rw [e1]; exact e2) (.v _)) hs (.refl _ _ _) (.refl _ _)

theorem absOs_spec {N : Nat} {hs : List Nat} {tag : Nat} {ops : Array Oper} : ∀ {l : List Oper} {aos : List AO}, absOs P G N hs tag ops l = some aos → aos.length = l.length ∧ ∀ (i : Nat) o, l[i]? = some o → ∃ ao, aos[i]? = some ao ∧ Fits P G N ops o ao
  | [], aos, h => by simp [absOs] at h; subst h; simp
  | o :: r, aos, h => by
    unfold absOs at h
    split at h
    · rename_i ao bos hao hbos
      cases h
      obtain ⟨h1, h2⟩ := absOs_spec hbos
      refine ⟨by simp [h1], fun i x hx => ?_⟩
      cases i with
      | zero => simp at hx; subst hx; exact ⟨ao, by simp, absO_spec hao⟩
      | succ i => simpa using h2 i x (by simpa using hx)
    · cases h

/-- Operations in the text's order. -/
theorem vcO_sound {N : Nat} {hs : List Nat} {tag : Nat} {ops : Array Oper} : ∀ (l : List Oper) (aos : List AO), absOs P G N hs tag ops l = some aos → ∀ (fr : Fr) (st : St) (K : Fr → St → Prop), vcO P G aos fr st K →
    ∀ (a : Act) (w : World) (κ : Im) (Qc : Exit → Act → World → Prop), FrR N w κ fr a → StR G w κ st →
      (∀ fr' st' κ' a' w', K fr' st' → FrR N w' κ' fr' a' → StR G w' κ' st' → Stp (own st) w κ w' κ' → Mine (own st) w (own st') → Qc .normal a' w') → wpList P ops Qc l a w
  | [], aos, h, fr, st, K, hv, a, w, κ, Qc, hf, hs', hQ => by
    simp [absOs] at h; subst h
    exact hQ fr st κ a w hv hf hs' (.refl _ _ _) (.refl _ _)
  | o :: r, aos, h, fr, st, K, hv, a, w, κ, Qc, hf, hs', hQ => by
    unfold absOs at h
    split at h
    · rename_i ao bos hao hbos
      cases h
      rw [vcO_cons] at hv
      unfold wpList
      refine vcI_sound (absO_spec hao) hv hf hs' ?_
      intro fr' st' κ' a' w' hK hf' hst' hstp hmine
      refine vcO_sound r bos hbos _ _ K hK _ w' κ' Qc hf' hst' ?_
      intro fr2 st2 κ2 a2 w2 hK2 hf2 hst2 hstp2 hmine2
      exact hQ fr2 st2 κ2 a2 w2 hK2 hf2 hst2 (hstp.trans hmine hstp2) (hmine.trans hstp.size hmine2)
    · cases h

/-! ### Whatever order is drawn -/
def aAny (P : Program) (G : Nat → AV) (ops : Array Oper) (l : List AO) (K : Fr → St → Prop) : Nat → Array Bool → Fr → St → Prop
  | 0, listed, fr, st => Region.ready .any ops listed = [] ∧ K fr st
  | fuel + 1, listed, fr, st => (Region.ready .any ops listed = [] → K fr st) ∧
    ∀ i ∈ Region.ready .any ops listed, match l[i]? with
      | some o => vcI P G o (aAny P G ops l K fuel (listed.setIfInBounds i true)) fr st
      | none => False

theorem aAny_inv {ops : Array Oper} {l : List AO} {K : Fr → St → Prop} (hK : FrInv K) : ∀ (fuel : Nat) (listed : Array Bool), FrInv (aAny P G ops l K fuel listed)
  | 0, listed => fun fr fr' st h q => ⟨q.1, hK _ _ _ h q.2⟩
  | fuel + 1, listed => fun fr fr' st h q => by
    refine ⟨fun e => hK _ _ _ h (q.1 e), fun i hi => ?_⟩
    have := q.2 i hi
    revert this
    cases l[i]? with
    | none => exact id
    | some o => exact vcI_inv (aAny_inv hK fuel _) _ _ _ h

theorem aAny_sound {N : Nat} {ops : Array Oper} {l : List AO} (hl : ∀ (i : Nat) o, ops[i]? = some o → ∃ ao, l[i]? = some ao ∧ Fits P G N ops o ao) {K : Fr → St → Prop} {Qc : Exit → Act → World → Prop} : ∀ (fuel : Nat) (listed : Array Bool) (fr : Fr) (st : St), aAny P G ops l K fuel listed fr st →
    ∀ (a : Act) (w : World) (κ : Im), FrR N w κ fr a → StR G w κ st → (∀ fr' st' κ' a' w', K fr' st' → FrR N w' κ' fr' a' → StR G w' κ' st' → Stp (own st) w κ w' κ' → Mine (own st) w (own st') → Qc .normal a' w') → wpAny P .any ops Qc fuel listed a w
  | 0, listed, fr, st, h, a, w, κ, hf, hs, hQ => ⟨h.1, hQ fr st κ a w h.2 hf hs (.refl _ _ _) (.refl _ _)⟩
  | fuel + 1, listed, fr, st, h, a, w, κ, hf, hs, hQ => by
    refine ⟨fun e => hQ fr st κ a w (h.1 e) hf hs (.refl _ _ _) (.refl _ _), fun i hi => ?_⟩
    have h2 := h.2 i hi
    obtain ⟨_, o, ho, _⟩ := mem_ready.1 hi
    obtain ⟨ao, hao, hF⟩ := hl i o ho
    rw [hao] at h2
    unfold wpOp
    rw [ho]
    refine vcI_sound hF h2 hf hs ?_
    intro fr' st' κ' a' w' hK hf' hst' hstp hmine
    refine aAny_sound hl fuel _ fr' st' hK a' w' κ' hf' hst' ?_
    intro fr2 st2 κ2 a2 w2 hK2 hf2 hst2 hstp2 hmine2
    exact hQ fr2 st2 κ2 a2 w2 hK2 hf2 hst2 (hstp.trans hmine hstp2) (hmine.trans hstp.size hmine2)

/-- Something comes behind an operation that may be overtaken. -/
theorem comm_lives {x y : AO} (h : x.comm y = true) {K : Fr → St → Prop} {fr : Fr} {st : St} (hv : vcI P G x K fr st) : ∃ fr' st', K fr' st' := by
  have quiet : x.k.quiet = true → ∃ fr' st', K fr' st' := fun hq => by
    obtain ⟨v, h1, _⟩ := stepO_det hq hv
    exact ⟨_, _, h1⟩
  unfold AO.comm at h
  rw [Bool.and_eq_true] at h
  obtain ⟨ha, h⟩ := h
  rw [Bool.or_eq_true, Bool.or_eq_true] at h
  rcases h with (h | h) | h
  · exact quiet (free_quiet h)
  · exact quiet (by simpa using (Bool.and_eq_true _ _ ▸ h : _ ∧ _).1)
  · split at h
    · rw [Bool.and_eq_true, Bool.or_eq_true] at h
      rcases h.2 with h | h
      · exact quiet h
      · rw [Bool.and_eq_true] at h
        have hg : x.g = none := by simpa using h.1
        have h := h.2
        split at h
        · rename_i t' z' hx
          unfold vcI at hv
          rw [stepO_at hg hx] at hv
          exact ⟨_, _, hv 0⟩
        · rename_i sz bytes xa xb hx
          unfold vcI at hv
          rw [stepO_at hg hx] at hv
          have live : ∀ {sz bytes : Nat} {app : App} {els news : List (List AV)} {st : St} {K : AV → St → Prop}, AppGoal sz bytes app els news st K → ∃ v st', K v st' := fun q => by
            obtain ⟨a, e, c⟩ := q.out
            rcases c with ⟨c1, c2⟩ | ⟨c1, l1, l2, c2, c3⟩
            · exact ⟨_, _, c2 0 0⟩
            · exact ⟨_, _, c3 0 0⟩
          have : ∃ v st', K (putFr x.dst v fr) st' := by
            simp only [vcK, appVC] at hv
            split at hv
            · obtain ⟨_, hv⟩ := hv
              split at hv
              · exact live hv.2
              · exact live hv.2
              · obtain ⟨_, _, _, q⟩ := withObj_elim hv
                exact live q
              · exact hv.elim
            · exact hv.elim
          obtain ⟨v, st', q⟩ := this
          exact ⟨_, _, q⟩
        · cases h
    · rw [Bool.and_eq_true] at h; exact quiet h.2
    · rw [Bool.and_eq_true] at h; exact quiet (avoid_quiet h.2)
    · cases h

theorem getD_set_self {listed : Array Bool} {i : Nat} {d : Bool} (h : i < listed.size) : (listed.setIfInBounds i true).getD i d = true := by
  simp [Array.getD_eq_getD_getElem?, Array.getElem?_setIfInBounds, h]

/-- The one that the order has first may as well come first. -/
theorem aAny_first {ops : Array Oper} {l : List AO} {K : Fr → St → Prop} (hK : FrInv K) {i : Nat} {x : AO} (hx : l[i]? = some x) (hlen : ∀ (j : Nat) (o : Oper), ops[j]? = some o → ∃ y : AO, l[j]? = some y) {B : List Nat}
    (hB : ∀ j ∈ B, ∃ o, ops[j]? = some o ∧ ∃ e ∈ o.after, Region.binds .any e = true ∧ (e.on = i ∨ e.on ∈ B)) :
    ∀ (fuel : Nat) (listed : Array Bool) (fr : Fr) (st : St), i ∈ Region.ready .any ops listed → (∀ j ∈ B, listed.getD j false = false) → listed.getD i false = false →
      (∀ (j : Nat) (y : AO), l[j]? = some y → listed.getD j true = false → j ≠ i → j ∈ B ∨ x.comm y = true) →
      vcI P G x (aAny P G ops l K fuel (listed.setIfInBounds i true)) fr st → aAny P G ops l K (fuel + 1) listed fr st := by
  have notB : ∀ {listed : Array Bool} {j : Nat}, (∀ j ∈ B, listed.getD j false = false) → listed.getD i false = false → j ∈ Region.ready .any ops listed → j ∉ B := by
    intro listed j hb hi hj hjB
    obtain ⟨_, o, ho, hall⟩ := mem_ready.1 hj
    obtain ⟨o', ho', e, he, hbd, hon⟩ := hB j hjB
    rw [ho] at ho'; cases ho'
    have := hall e he hbd
    rcases hon with h | h
    · rw [h, hi] at this; cases this
    · rw [hb _ h] at this; cases this
  intro fuel
  induction fuel with
  | zero =>
    intro listed fr st hr hb hi0 hc hv
    refine ⟨fun e => (by rw [e] at hr; cases hr), fun j hj => ?_⟩
    by_cases hji : j = i
    · subst hji; rw [hx]; exact hv
    · exfalso
      obtain ⟨hju, o, ho, _⟩ := mem_ready.1 hj
      obtain ⟨y, hy⟩ := hlen j o ho
      have hcm := (hc j y hy hju hji).resolve_left (notB hb hi0 hj)
      obtain ⟨fr', st', q⟩ := comm_lives hcm hv
      have := ready_mono hj hji
      rw [q.1] at this
      cases this
  | succ fuel ih =>
    intro listed fr st hr hb hi0 hc hv
    refine ⟨fun e => (by rw [e] at hr; cases hr), fun j hj => ?_⟩
    by_cases hji : j = i
    · subst hji; rw [hx]; exact hv
    · obtain ⟨hju, o, ho, _⟩ := mem_ready.1 hj
      obtain ⟨y, hy⟩ := hlen j o ho
      have hjB := notB hb hi0 hj
      have hcm := (hc j y hy hju hji).resolve_left hjB
      rw [hy]
      have h1 : vcI P G x (vcI P G y (aAny P G ops l K fuel ((listed.setIfInBounds i true).setIfInBounds j true))) fr st := by
        refine vcI_mono (fun fr st q => ?_) hv
        have := q.2 j (ready_mono hj hji)
        rwa [hy] at this
      have h2 := comm_ok hcm (aAny_inv hK fuel _) h1
      refine vcI_mono (fun fr st q => ?_) h2
      have ne : ∀ {k : Nat} {d : Bool}, k ≠ j → (listed.setIfInBounds j true).getD k d = listed.getD k d := fun hk => getD_set_ne _ (Ne.symm hk)
      refine ih _ fr st (ready_mono hr (Ne.symm hji)) (fun k hk => by rw [ne (fun e => hjB (e ▸ hk))]; exact hb k hk) (by rw [ne (Ne.symm hji)]; exact hi0) (fun k z hz hku hki => ?_) ?_
      · by_cases hkj : k = j
        · subst hkj
          have hlt : k < listed.size := by
            rcases Nat.lt_or_ge k listed.size with q | q
            · exact q
            · simp [Array.getD, Nat.not_lt.2 q] at hju
          rw [getD_set_self hlt] at hku; cases hku
        · rw [ne hkj] at hku; exact hc k z hz hku hki
      · rw [Array.setIfInBounds_comm _ _ hji]
        exact q

theorem held_spec (deps : List (List Nat)) (i : Nat) : ∀ (rest B : List Nat), (∀ j ∈ B, ∃ d ∈ deps.getD j [], d = i ∨ d ∈ B) →
    ∀ j ∈ rest.foldl (fun B j => if (deps.getD j []).any (fun d => d == i || B.contains d) then j :: B else B) B, ∃ d ∈ deps.getD j [], d = i ∨ d ∈ rest.foldl (fun B j => if (deps.getD j []).any (fun d => d == i || B.contains d) then j :: B else B) B
  | [], B, h => h
  | k :: rest, B, h => by
    rw [List.foldl_cons]
    refine held_spec deps i rest _ ?_
    split
    · rename_i hk
      intro j hj
      rcases List.mem_cons.1 hj with rfl | hj
      · obtain ⟨d, hd, hd2⟩ := List.any_eq_true.1 hk
        refine ⟨d, hd, ?_⟩
        simp only [Bool.or_eq_true, beq_iff_eq, List.contains_eq_mem, decide_eq_true_eq] at hd2
        exact hd2.imp id fun q => List.mem_cons_of_mem _ q
      · obtain ⟨d, hd, hd2⟩ := h j hj
        exact ⟨d, hd, hd2.imp id fun q => List.mem_cons_of_mem _ q⟩
    · exact h
theorem held_sub (deps : List (List Nat)) (i : Nat) : ∀ (rest B : List Nat), ∀ j ∈ rest.foldl (fun B j => if (deps.getD j []).any (fun d => d == i || B.contains d) then j :: B else B) B, j ∈ rest ∨ j ∈ B
  | [], B => fun j h => .inr h
  | k :: rest, B => fun j h => by
    rw [List.foldl_cons] at h
    rcases held_sub deps i rest _ j h with q | q
    · exact .inl (List.mem_cons_of_mem _ q)
    · split at q
      · rcases List.mem_cons.1 q with rfl | q
        · exact .inl (by simp)
        · exact .inr q
      · exact .inr q

theorem binding_spec {ops : Array Oper} {j : Nat} {o : Oper} (ho : ops[j]? = some o) (d : Nat) : d ∈ (binding ops).getD j [] ↔ ∃ e ∈ o.after, Region.binds .any e = true ∧ e.on = d := by
  have : (binding ops)[j]? = some ((o.after.toList.filter (Region.binds .any)).map (·.on)) := by simp [binding, ho]
  rw [List.getD_eq_getElem?_getD, this]
  simp only [Option.getD_some, List.mem_map, List.mem_filter, Array.mem_toList_iff]
  constructor
  · rintro ⟨e, ⟨h1, h2⟩, h3⟩; exact ⟨e, h1, h2, h3⟩
  · rintro ⟨e, h1, h2, h3⟩; exact ⟨e, ⟨h1, h2⟩, h3⟩

/-- One order for all. -/
theorem aAny_order {ops : Array Oper} {l : List AO} {K : Fr → St → Prop} (hK : FrInv K) (hsz : l.length = ops.size) : ∀ (rest : List Nat) (listed : Array Bool) (fr : Fr) (st : St), listed.size = ops.size →
    (∀ k, k < ops.size → (listed.getD k false = false ↔ k ∈ rest)) → orderOk (binding ops) l rest = true → vcO P G (rest.filterMap (l[·]?)) fr st K → aAny P G ops l K rest.length listed fr st
  | [], listed, fr, st, hs, hin, hok, hv => by
    refine ⟨?_, hv⟩
    cases hr : Region.ready .any ops listed with
    | nil => rfl
    | cons i r =>
      have hi : i ∈ Region.ready .any ops listed := by rw [hr]; simp
      obtain ⟨h1, o, ho, _⟩ := mem_ready.1 hi
      have hlt : i < ops.size := (Array.getElem?_eq_some_iff.1 ho).1
      have h1' : listed.getD i false = false := by
        have : i < listed.size := by omega
        simpa [Array.getD, this] using h1
      exact absurd ((hin i hlt).1 h1') (by simp)
  | i :: rest, listed, fr, st, hs, hin, hok, hv => by
    simp only [orderOk, Bool.and_eq_true] at hok
    obtain ⟨⟨⟨⟨hdeps, hni⟩, hil⟩, hcm⟩, hrest⟩ := hok
    have hil' : i < l.length := by simpa using hil
    have hlt : i < ops.size := by omega
    have hni' : i ∉ rest := by simpa using hni
    obtain ⟨x, hx⟩ : ∃ x, l[i]? = some x := ⟨l[i], List.getElem?_eq_getElem hil'⟩
    have ho : ops[i]? = some ops[i] := Array.getElem?_eq_getElem hlt
    rw [hx] at hcm
    have tf : ∀ {k : Nat}, k < ops.size → listed.getD k true = listed.getD k false := by
      intro k hk
      have : k < listed.size := by rw [hs]; exact hk
      simp [Array.getD, this]
    have hi0 : listed.getD i false = false := (hin i hlt).2 (by simp)
    have hready : i ∈ Region.ready .any ops listed := mem_ready.2 ⟨by rw [tf hlt]; exact hi0, _, ho, fun e he hb => by
      have hd : e.on ∈ (binding ops).getD i [] := (binding_spec ho _).2 ⟨e, he, hb, rfl⟩
      have := List.all_eq_true.1 hdeps _ hd
      simp only [Bool.and_eq_true, decide_eq_true_eq, bne_iff_ne, ne_eq, Bool.not_eq_true', List.contains_eq_mem, decide_eq_false_iff_not] at this
      obtain ⟨⟨q1, q2⟩, q3⟩ := this
      cases hg : listed.getD e.on false with
      | true => rfl
      | false => exact absurd ((hin e.on (by omega)).1 hg) (by simp [q2, q3])⟩
    have hv' : vcI P G x (fun fr st => vcO P G (rest.filterMap (l[·]?)) fr st K) fr st := by
      rw [List.filterMap_cons, hx] at hv
      exact hv
    have hBs := held_spec (binding ops) i rest [] (by simp)
    have hBr : ∀ j ∈ held (binding ops) i rest, j ∈ rest := fun j hj => (held_sub (binding ops) i rest [] j hj).resolve_right (by simp)
    have hops : ∀ {j : Nat}, j ∈ rest → j < ops.size := fun {j} hj => by
      have := List.all_eq_true.1 hcm j hj
      rw [Bool.or_eq_true] at this
      rcases this with q | q
      · have hq : j ∈ held (binding ops) i rest := by simpa using q
        obtain ⟨d, hd, _⟩ := hBs j hq
        rcases Nat.lt_or_ge j ops.size with r | r
        · exact r
        · exfalso
          have : (binding ops).getD j [] = [] := by
            have hl : (binding ops).length ≤ j := by simp [binding]; exact r
            simp [List.getD_eq_getElem?_getD, List.getElem?_eq_none hl]
          rw [this] at hd; cases hd
      · cases hlj : l[j]? with
        | none => rw [hlj] at q; cases q
        | some y => rw [← hsz]; exact (List.getElem?_eq_some_iff.1 hlj).1
    refine aAny_first hK hx (fun j o ho => ⟨l[j]'(by rw [hsz]; exact (Array.getElem?_eq_some_iff.1 ho).1), List.getElem?_eq_getElem _⟩) (B := held (binding ops) i rest) (fun j hj => ?_) rest.length listed fr st hready (fun j hj => ?_) hi0 (fun j y hy hju hji => ?_) ?_
    · obtain ⟨d, hd, hd2⟩ := hBs j hj
      have hjl := hops (hBr j hj)
      obtain ⟨e, he, hb, hon⟩ := (binding_spec (Array.getElem?_eq_getElem hjl) d).1 hd
      exact ⟨_, Array.getElem?_eq_getElem hjl, e, he, hb, by rw [hon]; exact hd2⟩
    · exact (hin j (hops (hBr j hj))).2 (List.mem_cons_of_mem _ (hBr j hj))
    · have hjl : j < ops.size := by rw [← hsz]; exact (List.getElem?_eq_some_iff.1 hy).1
      rw [tf hjl] at hju
      have hjr : j ∈ rest := by
        rcases List.mem_cons.1 ((hin j hjl).1 hju) with q | q
        · exact absurd q hji
        · exact q
      have := List.all_eq_true.1 hcm j hjr
      rw [hy, Bool.or_eq_true] at this
      exact this.imp (fun q => by simpa using q) id
    · refine vcI_mono (fun fr st q => ?_) hv'
      refine aAny_order hK hsz rest _ fr st (by simpa using hs) (fun k hk => ?_) hrest q
      by_cases hki : k = i
      · subst hki
        rw [getD_set_self (by rw [hs]; exact hlt)]
        simp [hni']
      · rw [getD_set_ne _ (Ne.symm hki)]
        rw [hin k hk]
        simp [hki]

/-! ### The purer kinds -/
theorem Fits.pcall {N : Nat} {ops : Array Oper} {o : Oper} {d : Option Nat} {g : Option (Nat × Bool)} {f : FuncId} {xs : List Y} (F : List Nat) (h : Fits P G N ops o ⟨d, g, .call f xs⟩) : Fits P G N ops o ⟨d, g, .pcall F f xs⟩ := by
  refine ⟨h.dst, h.lt, ?_, h.g⟩
  intro N fr st K a w κ next Qc hf hst hv hn
  obtain ⟨vs, hvs, q⟩ := withAVs_elim hv
  obtain ⟨x, s1, s2, hp, _, hA, hK⟩ := q.out
  refine h.ok N fr st (fun r st' => r = x ∧ st' = s1 ++ s2) a w κ next Qc hf hst ?_ ?_
  · show withAVs (evs fr xs) _
    rw [hvs]
    exact ⟨_, s1, s2, hp, hA, fun r st' hr => ⟨hr.1, by rw [hr.2]⟩⟩
  · rintro r v st' κ' w' ⟨rfl, rfl⟩ hvr hst' hstp hmine
    exact hn _ v st κ' w' hK hvr (hst'.perm hp) hstp (hmine.perm hp)
theorem Fits.loadX {N : Nat} {ops : Array Oper} {o : Oper} {d : Option Nat} {g : Option (Nat × Bool)} {sz : Nat} {agg : Bool} {x : Y} (F : List Nat) (h : Fits P G N ops o ⟨d, g, .load sz agg x⟩) : Fits P G N ops o ⟨d, g, .loadX F sz agg x⟩ :=
  ⟨h.dst, h.lt, fun N fr st K a w κ next Qc hf hst hv hn => h.ok N fr st K a w κ next Qc hf hst hv.2 hn, h.g⟩
theorem Fits.storeX {N : Nat} {ops : Array Oper} {o : Oper} {d : Option Nat} {g : Option (Nat × Bool)} {sz : Nat} {x y : Y} (t : Nat) (h : Fits P G N ops o ⟨d, g, .store sz x y⟩) : Fits P G N ops o ⟨d, g, .storeX t sz x y⟩ :=
  ⟨h.dst, h.lt, fun N fr st K a w κ next Qc hf hst hv hn => h.ok N fr st K a w κ next Qc hf hst hv.2 hn, h.g⟩
theorem Fits.pure {N : Nat} {ops : Array Oper} {o : Oper} {ao : AO} (F : List Nat) (tag : Nat) (h : Fits P G N ops o ao) : Fits P G N ops o (ao.pure F tag) := by
  obtain ⟨d, g, k⟩ := ao
  unfold AO.pure
  split
  · rename_i f xs e; simp only at e; subst e; exact h.pcall F
  · rename_i sz agg x e; simp only at e; subst e; exact h.loadX F
  · rename_i sz d' y e; simp only at e; subst e
    split
    · exact h.storeX _
    · exact h
  · exact h
theorem Fits.pcall' {N : Nat} {ops : Array Oper} {o : Oper} {ao : AO} (h : Fits P G N ops o ao) : Fits P G N ops o ao.pcall := by
  obtain ⟨d, g, k⟩ := ao
  unfold AO.pcall
  split
  · rename_i f xs e; simp only at e; subst e; exact h.pcall []
  · exact h

theorem length_le_of_subset : ∀ {l m : List Nat}, l.Nodup → l ⊆ m → l.length ≤ m.length
  | [], _, _, _ => Nat.zero_le _
  | a :: r, m, hn, hs => by
    obtain ⟨h1, h2⟩ := List.nodup_cons.1 hn
    have ha : a ∈ m := hs (by simp)
    have hr : r ⊆ m.erase a := by
      intro j hj
      have hne : j ≠ a := by intro e; subst e; exact h1 hj
      exact (List.mem_erase_of_ne hne).2 (hs (List.mem_cons_of_mem _ hj))
    have := length_le_of_subset h2 hr
    rw [List.length_erase_of_mem ha] at this
    have hpos := List.length_pos_of_mem ha
    simp only [List.length_cons]
    omega
theorem tryOrder_sound {N : Nat} {ops : Array Oper} {l r : List AO} (hl : ∀ (i : Nat) o, ops[i]? = some o → ∃ ao, l[i]? = some ao ∧ Fits P G N ops o ao) (hsz : l.length = ops.size) (h : tryOrder (binding ops) l = some r)
    {K : Fr → St → Prop} {fr : Fr} {st : St} (hv : vcO P G r fr st K) {a : Act} {w : World} {κ : Im} (hf : FrR N w κ fr a) (hs : StR G w κ st) {Qc : Exit → Act → World → Prop}
    (hQ : ∀ fr' st' κ' a' w', K fr' st' → FrR N w' κ' fr' a' → StR G w' κ' st' → Stp (own st) w κ w' κ' → Mine (own st) w (own st') → Qc .normal a' w') :
    wpAny P .any ops Qc ops.size (Array.replicate ops.size false) a w := by
  unfold tryOrder at h
  simp only at h
  split at h
  · rename_i hc
    cases h
    rw [Bool.and_eq_true] at hc
    obtain ⟨hlen, hok⟩ := hc
    have hlen' : (goOrder (binding ops) l l.length (List.range l.length)).length = l.length := by simpa using hlen
    -- forgetting how the frame is laid out
    have hinv : FrInv (fun fr st => ∃ fr0, FEq fr0 fr ∧ K fr0 st) := fun fr fr' st h ⟨fr0, h1, h2⟩ => ⟨fr0, fun i => (h1 i).trans (h i), h2⟩
    have hv2 : vcO P G ((goOrder (binding ops) l l.length (List.range l.length)).filterMap (l[·]?)) fr st (fun fr st => ∃ fr0, FEq fr0 fr ∧ K fr0 st) := by
      have mono : ∀ (os : List AO) (fr : Fr) (st : St), vcO P G os fr st K → vcO P G os fr st (fun fr st => ∃ fr0, FEq fr0 fr ∧ K fr0 st) := by
        intro os
        induction os with
        | nil => intro fr st h; exact ⟨fr, fun _ => rfl, h⟩
        | cons o os ih => intro fr st h; rw [vcO_cons] at h ⊢; exact vcI_mono ih h
      exact mono _ _ _ hv
    have hall : ∀ k, k < ops.size → k ∈ goOrder (binding ops) l l.length (List.range l.length) := by
      have nd : ∀ (rest : List Nat), orderOk (binding ops) l rest = true → rest.Nodup ∧ ∀ k ∈ rest, k < l.length := by
        intro rest
        induction rest with
        | nil => intro _; simp
        | cons i r ih =>
          intro h
          simp only [orderOk, Bool.and_eq_true] at h
          obtain ⟨⟨⟨⟨_, h2⟩, h3⟩, _⟩, h5⟩ := h
          obtain ⟨i1, i2⟩ := ih h5
          refine ⟨List.nodup_cons.2 ⟨by simpa using h2, i1⟩, fun k hk => ?_⟩
          rcases List.mem_cons.1 hk with rfl | hk
          · simpa using h3
          · exact i2 k hk
      obtain ⟨n1, n2⟩ := nd _ hok
      intro k hk
      refine Classical.byContradiction fun hni => ?_
      have hsub : (goOrder (binding ops) l l.length (List.range l.length)) ⊆ (List.range l.length).erase k := by
        intro j hj
        have hne : j ≠ k := by intro e; subst e; exact hni hj
        exact (List.mem_erase_of_ne hne).2 (by simpa using n2 j hj)
      have h1 := length_le_of_subset n1 hsub
      have h2 : k ∈ List.range l.length := by simp; omega
      rw [List.length_erase_of_mem h2, hlen', List.length_range] at h1
      omega
    have := aAny_order hinv hsz _ (Array.replicate ops.size false) fr st (by simp) (fun k hk => by simp [Array.getD, hk, hall k hk]) hok hv2
    rw [hlen', hsz] at this
    refine aAny_sound hl _ _ fr st this a w κ hf hs ?_
    rintro fr' st' κ' a' w' ⟨fr0, h1, h2⟩ hf' hst' hstp hmine
    exact hQ fr0 st' κ' a' w' h2 ⟨hf'.size, hf'.defers, fun i x hi => hf'.slot i x ((h1 i).symm.trans hi)⟩ hst' hstp hmine
  · cases h
theorem map_fits {N : Nat} {ops : Array Oper} {l : List AO} (hl : ∀ (i : Nat) o, ops[i]? = some o → ∃ ao, l[i]? = some ao ∧ Fits P G N ops o ao) (F : AO → AO) (hF : ∀ o ao, Fits P G N ops o ao → Fits P G N ops o (F ao)) :
    ∀ (i : Nat) o, ops[i]? = some o → ∃ ao, (l.map F)[i]? = some ao ∧ Fits P G N ops o ao := fun i o ho => by
  obtain ⟨ao, h1, h2⟩ := hl i o ho
  exact ⟨F ao, by simp [h1], hF o ao h2⟩
theorem drawn_sound {N : Nat} {ops : Array Oper} {tag : Nat} {l r : List AO} (hl : ∀ (i : Nat) o, ops[i]? = some o → ∃ ao, l[i]? = some ao ∧ Fits P G N ops o ao) (hsz : l.length = ops.size) (h : drawn tag ops l = some r)
    {K : Fr → St → Prop} {fr : Fr} {st : St} (hv : vcO P G r fr st K) {a : Act} {w : World} {κ : Im} (hf : FrR N w κ fr a) (hs : StR G w κ st) {Qc : Exit → Act → World → Prop}
    (hQ : ∀ fr' st' κ' a' w', K fr' st' → FrR N w' κ' fr' a' → StR G w' κ' st' → Stp (own st) w κ w' κ' → Mine (own st) w (own st') → Qc .normal a' w') :
    wpAny P .any ops Qc ops.size (Array.replicate ops.size false) a w := by
  unfold drawn at h
  split at h
  · cases h
  · simp only at h
    split at h
    · rename_i r' hr; cases h; exact tryOrder_sound hl hsz hr hv hf hs hQ
    · split at h
      · rename_i r' hr; cases h; exact tryOrder_sound (map_fits hl AO.pcall fun o ao q => q.pcall') (by simpa using hsz) hr hv hf hs hQ
      · exact tryOrder_sound (map_fits hl _ fun o ao q => q.pure _ tag) (by simpa using hsz) h hv hf hs hQ

theorem Same.stp {w w' : World} (h : Same w w') (S : List Nat) (κ : Im) : Stp S w κ w' κ where
  ext := ⟨fun _ _ q => q, fun b o _ => cell_heap h.heap _⟩
  os := h.os
  tape := h.tape
  output := h.output
  size := by rw [h.heap]; exact Nat.le_refl _
  block := fun k _ _ => by rw [h.heap]
  im := fun _ _ q _ _ => q
theorem Same.str {w w' : World} (h : Same w w') {κ : Im} {st : St} (hs : StR G w κ st) : StR G w' κ st :=
  hs.keep (h.stp (own st) κ).ext (fun b _ => ⟨by rw [h.heap], fun _ q => q⟩) (fun b o q => by rw [h.heap]; exact hs.lt b o q)

/-! ### The prover's goals -/
theorem bcase_elim {b : Bool} {y n : Prop} (h : bcase b y n) : (b = true ∧ y) ∨ (b = false ∧ n) := by
  cases b
  · exact .inr ⟨rfl, h⟩
  · exact .inl ⟨rfl, h⟩
theorem bcase_mk {b : Bool} {y n : Prop} (h : b = true → y) (k : b = false → n) : bcase b y n := by
  cases b
  · exact k rfl
  · exact h rfl
theorem setFr_eq {j : Nat} {v : AV} : ∀ {fr : Fr}, fr.get j = some v → FEq (setFr j v fr) fr
  | [], h => by simp [Fr.get] at h
  | (i, x) :: r, h => fun k => by
    by_cases e : i = j
    · simp only [Fr.get, if_pos e] at h
      cases h
      subst e
      rw [setFr_cons, if_pos rfl]
    · simp only [Fr.get, if_neg e] at h
      have := setFr_eq h k
      simp only [setFr_cons, if_neg e, Fr.get, this]
theorem setY_eq {c : Y} {v : AV} {fr : Fr} (h : fr.at c = some v) : FEq (setY c v fr) fr := by
  cases c with
  | t n => exact setFr_eq h
  | c _ => exact fun _ => rfl
/-- A continuation that does not mind how the frame is laid out. -/
def Clo (K : Fr → St → Prop) : Fr → St → Prop := fun fr st => ∃ fr0, FEq fr0 fr ∧ K fr0 st
theorem Clo.inv (K : Fr → St → Prop) : FrInv (Clo K) := fun fr fr' st h ⟨fr0, h1, h2⟩ => ⟨fr0, fun i => (h1 i).trans (h i), h2⟩
theorem vcO_inv {K : Fr → St → Prop} (hK : FrInv K) : ∀ (os : List AO), FrInv (fun fr st => vcO P G os fr st K)
  | [] => hK
  | o :: os => vcI_inv (o := o) (vcO_inv hK os)
theorem ifB_elim {b : Bool} {X : Prop} (h : ifB b X) : b = true ∧ X := by
  cases b
  · exact h.elim
  · exact ⟨rfl, h⟩
theorem ifB_mk {b : Bool} {X : Prop} (h : b = true) (k : X) : ifB b X := by subst h; exact k
theorem kindB_inj {k k' : IntKind} (h : Nat.beq (kindB k) (kindB k') = true) : k = k' := by
  have := Nat.eq_of_beq_eq_true h
  cases k <;> cases k' <;> first | rfl | (simp [kindB] at this)
theorem inB_spec {i : Int} {n : Nat} (h : inB i n = true) : 0 ≤ i ∧ i < n := by
  unfold inB at h
  split at h
  · rename_i k; have := Nat.le_of_ble_eq_true h; constructor <;> simp <;> omega
  · cases h
theorem toByte_b8 (c : UInt8) : toByte (b8 c) = c := by simp [toByte, b8]
theorem isByte_b8 (c : UInt8) : isByte (b8 c) = true := rfl
theorem map_toByte_b8 (l : List UInt8) : (l.map b8).map toByte = l := by
  induction l with
  | nil => rfl
  | cons c l ih => rw [List.map_cons, List.map_cons, toByte_b8, ih]
theorem shfVP_shfVC {op : BinOp} {k : IntKind} {a b : Int} {K : AV → Prop} (h : shfVP op k a b K) : shfVC op k a b K := by
  have e : ∀ {b : Int}, nonnegB b = true → 0 ≤ b := fun {b} h => by cases b with
    | ofNat n => simp
    | negSucc n => cases h
  unfold shfVP at h
  split at h
  · exact ⟨e (ifB_elim h).1, (ifB_elim h).2⟩
  · exact ⟨e (ifB_elim h).1, (ifB_elim h).2⟩
  · exact h.elim
theorem wParts_with {fr : Fr} : ∀ {l : List (Nat × Nat × Y)} {F : List (Nat × AV) → Prop}, wParts fr l F → withParts fr l F
  | [], _, h => h
  | (_, _, _) :: r, F, h => withAV_mono (fun v q => by
    obtain ⟨h1, h2⟩ := ifB_elim q
    rw [Bool.and_eq_true] at h1
    exact ⟨⟨h1.1, Nat.eq_of_beq_eq_true h1.2⟩, wParts_with h2⟩) h
theorem vcP_vcK {k : AK} {fr : Fr} {st : St} {K : AV → St → Prop} (h : vcP P G k fr st K) : vcK P G k fr st K := by
  unfold vcP at h
  split at h
  · obtain ⟨t, ht, h⟩ := withBool_elim h
    simp only [vcK, ht, withBool]
    rcases bcase_elim h with ⟨rfl, h⟩ | ⟨rfl, h⟩
    · exact ⟨fun _ => h, fun e => by cases e⟩
    · exact ⟨fun e => (by cases e), fun _ => h⟩
  · exact withInt_mono (fun k a => withInt_mono fun k' b q => ⟨kindB_inj (ifB_elim q).1, binVP_binVC (ifB_elim q).2⟩) h
  · exact withInt_mono (fun k a => withInt_mono fun k' b q => shfVP_shfVC q) h
  · exact withInt_mono (fun k a => withInt_mono fun k' b q => ⟨kindB_inj (ifB_elim q).1, (ifB_elim q).2⟩) h
  · refine withSl_mono (fun a b c q => ?_) h
    obtain ⟨h1, h2⟩ := ifB_elim q
    obtain ⟨l, rfl, h3⟩ := h2.out
    refine ⟨⟨Nat.eq_of_beq_eq_true h1, by simp [isByte_b8]⟩, ?_⟩
    rw [map_toByte_b8]; exact h3
  · refine withInt_mono (fun _ i q => ?_) h
    unfold idxAVC
    split at q
    · rename_i hx
      try rw [hx]
      obtain ⟨h1, h2⟩ := ifB_elim q
      obtain ⟨h3, c, h4, h5⟩ := h2.out
      have hlt := (List.getElem?_eq_some_iff.1 h4).1
      refine ⟨⟨h3, by omega, Nat.eq_of_beq_eq_true h1⟩, ?_⟩
      rw [List.getD_eq_getElem?_getD, h4]; exact h5
    · rename_i hx
      try rw [hx]
      obtain ⟨h1, h2⟩ := ifB_elim q
      exact ⟨inB_spec h1, h2⟩
    · exact q.elim
  · refine withInt_mono (fun _ i q => ?_) h
    unfold idxPVC
    split at q
    · rename_i hx
      try rw [hx]
      obtain ⟨h1, h2⟩ := ifB_elim q
      exact ⟨inB_spec h1, h2⟩
    · rename_i hx
      try rw [hx]
      obtain ⟨h1, h2⟩ := ifB_elim q
      exact ⟨inB_spec h1, h2⟩
    · exact q.elim
  · refine withAgg_mono (fun l => withInt_mono fun _ i q => ?_) h
    obtain ⟨h1, h2⟩ := ifB_elim q
    rw [Bool.and_eq_true] at h1
    exact ⟨⟨(inB_spec h1.1).1, (inB_spec h1.1).2, Nat.le_of_ble_eq_true h1.2⟩, h2⟩
  · simp only [vcK, loadVC]
    split at h
    · rename_i hx
      try rw [hx]
      obtain ⟨h1, h2⟩ := ifB_elim h
      exact ⟨Nat.le_of_ble_eq_true h1, h2⟩
    · rename_i hx
      try rw [hx]
      exact withObj_mono (fun c q => ⟨Nat.le_of_ble_eq_true (ifB_elim q).1, (ifB_elim q).2⟩) h
    · exact h.elim
  · simp only [vcK, storeVC]
    split at h
    · rename_i hx
      try rw [hx]
      refine withAV_mono (fun v => withObj_mono fun c q => ?_) h
      obtain ⟨h1, h2⟩ := ifB_elim q
      simp only [Bool.and_eq_true] at h1
      exact ⟨⟨Nat.le_of_ble_eq_true h1.1.1, h1.1.2, Nat.eq_of_beq_eq_true h1.2⟩, h2⟩
    · exact h.elim
  · simp only [vcK, sliceVC]
    split at h
    · rename_i hx
      try rw [hx]
      refine bnd_mono (fun l => bnd_mono fun h q => ?_) h
      obtain ⟨h1, h2⟩ := ifB_elim q
      obtain ⟨n, m, els', rfl, rfl, h3, h4, rfl, h5⟩ := h2.out
      exact ⟨⟨by omega, by omega, by omega, Nat.eq_of_beq_eq_true h1⟩, by simpa using h5⟩
    · rename_i hx
      try rw [hx]
      exact h
    · exact h.elim
  · simp only [vcK, appVC]
    split at h
    · rename_i hx
      try rw [hx]
      obtain ⟨h1, h2⟩ := ifB_elim h
      refine ⟨Nat.eq_of_beq_eq_true h1, ?_⟩
      split at h2
      · rename_i hy; (try rw [hy]); exact ⟨Nat.eq_of_beq_eq_true (ifB_elim h2).1, (ifB_elim h2).2⟩
      · rename_i hy; (try rw [hy]); exact ⟨Nat.eq_of_beq_eq_true (ifB_elim h2).1, (ifB_elim h2).2⟩
      · rename_i hy; (try rw [hy])
        refine withObj_mono (fun c q => ?_) h2
        obtain ⟨q1, q2⟩ := ifB_elim q
        rw [Bool.and_eq_true] at q1
        exact ⟨⟨Nat.le_of_ble_eq_true q1.1, Nat.le_of_ble_eq_true q1.2⟩, q2⟩
      · exact h2.elim
    · exact h.elim
  · exact withAV_mono (fun v q => ifB_elim q) h
  · exact withAV_mono (fun v q => ifB_elim q) h
  · exact wParts_with h
  · exact wParts_with h
  · exact wParts_with h
  · refine withInt_mono (fun k a => withInt_mono fun k' b => withInt_mono fun k'' c q => ?_) h
    obtain ⟨h1, h2⟩ := ifB_elim q
    simp only [Bool.and_eq_true] at h1
    obtain ⟨⟨h3, h4, h5, h6, h7, h8⟩, h9⟩ := h2.out
    exact ⟨⟨kindB_inj h1.1.1, kindB_inj h1.1.2, kindB_inj h1.2, h3, h4, h5, h6, h7, h8⟩, h9⟩
  · refine withAgg_mono (fun a => withAgg_mono fun b q => ?_) h
    obtain ⟨t, h1, rfl, h2⟩ := q.out
    refine ⟨h1, ?_⟩
    cases h3 : eqAt a b _ <;> rw [h3] at h2 <;> exact h2
  · exact h
theorem ucO_vcO : ∀ (os : List AO) {fr : Fr} {st : St} {K : Fr → St → Prop}, ucO P G os fr st K → vcO P G os fr st (Clo K)
  | [], fr, st, K, h => ⟨fr, fun _ => rfl, h⟩
  | o :: os, fr, st, K, h => by
    rw [vcO_cons]
    have yes : ∀ fr', vcP P G o.k fr' st (fun x st' => ucO P G os (putFr o.dst x fr') st' K) → vcK P G o.k fr' st fun x st' => vcO P G os (putFr o.dst x fr') st' (Clo K) := fun fr' q => vcK_mono (fun x st' q => ucO_vcO os q) (vcP_vcK q)
    have inv : FrInv (vcI P G o fun fr st => vcO P G os fr st (Clo K)) := vcI_inv (vcO_inv (Clo.inv K) os)
    rw [ucO_cons] at h
    unfold vcH at h
    split at h
    · rename_i hg
      unfold vcI stepO
      rw [hg]
      exact yes fr h
    · rename_i j hg
      split at h
      · rename_i b hb
        rcases bcase_elim h with ⟨rfl, h⟩ | ⟨rfl, h⟩
        · refine inv _ _ _ (setFr_eq hb) ?_
          unfold vcI stepO
          rw [hg, vcG, setFr_eq hb j, hb]
          exact ⟨fun _ => yes _ h, fun e => by cases e⟩
        · refine inv _ _ _ (setFr_eq hb) ?_
          unfold vcI stepO
          rw [hg, vcG, setFr_eq hb j, hb]
          exact ⟨fun e => (by cases e), fun _ => ucO_vcO os h⟩
      · rename_i xs hb
        unfold vcI stepO
        rw [hg, vcG, hb]
        exact ucO_vcO os h
      · exact h.elim
    · rename_i j hg
      split at h
      · rename_i b hb
        rcases bcase_elim h with ⟨rfl, h⟩ | ⟨rfl, h⟩
        · refine inv _ _ _ (setFr_eq hb) ?_
          unfold vcI stepO
          rw [hg, vcG, setFr_eq hb j, hb]
          exact ⟨fun e => (by cases e), fun _ => ucO_vcO os h⟩
        · refine inv _ _ _ (setFr_eq hb) ?_
          unfold vcI stepO
          rw [hg, vcG, setFr_eq hb j, hb]
          exact ⟨fun _ => yes _ h, fun e => by cases e⟩
      · rename_i xs hb
        unfold vcI stepO
        rw [hg, vcG, hb]
        exact ucO_vcO os h
      · exact h.elim
theorem Post.clo {N : Nat} {Q : AQ} {S : List Nat} {w : World} {κ : Im} {a : Act} {w' : World} {fr : Fr} {st : St} {κ' : Im} (h : Clo (Q .normal) fr st) (hf : FrR N w' κ' fr a) (hs : StR G w' κ' st) (hp : Stp S w κ w' κ') (hm : Mine S w (own st)) : Post G N Q S w κ .normal a w' :=
  let ⟨fr0, h1, h2⟩ := h
  ⟨fr0, st, κ', h2, ⟨hf.size, hf.defers, fun i x hi => hf.slot i x ((h1 i).symm.trans hi)⟩, hs, hp, hm⟩

/-! ### Forgetting and finishing -/
theorem flatten_get {sz : Nat} : ∀ {L : List (List AV)}, (∀ el ∈ L, el.length = sz) → ∀ {i j : Nat}, j < sz → (L.flatten)[i * sz + j]? = match L[i]? with | some el => el[j]? | none => none
  | [], _, i, j, _ => by simp
  | l :: L, h, i, j, hj => by
    have hl : l.length = sz := h l (by simp)
    rw [List.flatten_cons]
    cases i with
    | zero => rw [Nat.zero_mul, Nat.zero_add, List.getElem?_append_left (by omega)]; rfl
    | succ i =>
      rw [List.getElem?_append_right (by rw [Nat.succ_mul]; omega), hl, show (i + 1) * sz + j - sz = i * sz + j from by rw [Nat.succ_mul]; omega,
        flatten_get (fun el q => h el (List.mem_cons_of_mem _ q)) hj]
      rfl
theorem VR.freeze {w : World} {κ : Im} {tag b sz : Nat} {cells : List AV} {c : Array Value} (hrow : Row w b c) (hsz : c.size = cells.length) (h1 : ∀ u ∈ c, u.oneCell' = true)
    (hv : ∀ (j : Nat) x u, cells[j]? = some x → c[j]? = some u → VR w κ x u) {x x' : AV} (hz : Fz tag b sz cells x x') : ∀ {v : Value}, VR w κ x v → VR w (addIm κ b cells.length) x' v := by
  have hext : Ext w κ w (addIm κ b cells.length) := ⟨fun _ _ q => .inl q, fun _ _ _ => rfl⟩
  induction hz with
  | refl x => exact fun h => h.mono hext
  | optr off =>
    intro v h
    cases h with
    | optr =>
      refine .ptr ⟨b, off, none⟩ _ (fun j => c.getD (off + j) undef) (fun j x hx => ?_) (fun j x hx => ?_)
      all_goals
        rw [List.getElem?_drop] at hx
        have hlt : off + j < cells.length := (List.getElem?_eq_some_iff.1 hx).1
        have hg : c.getD (off + j) undef = c[off + j]'(by omega) := by simp [Array.getD, hsz, hlt]
      · refine ⟨by rw [add_mk, hrow.cell, hg]; exact Array.getElem?_eq_getElem _, .inr ⟨rfl, hlt⟩, by rw [hg]; exact h1 _ (Array.getElem_mem ..)⟩
      · rw [hg]; exact (hv _ _ _ hx (Array.getElem?_eq_getElem _)).mono hext
  | osl off len hle h0 =>
    intro v h
    cases h with
    | osl _ _ _ _ cap hcap =>
      obtain ⟨c1, c2, c3⟩ := chunk_flat (sz := sz) (n := len) (l := (cells.drop off).take (len * sz)) h0 (by simp; omega)
      have hch : ∀ (n : Nat) (l : List AV), chunk sz n (l.take (n * sz)) = chunk sz n l := by
        intro n
        induction n with
        | zero => intro l; rfl
        | succ n ih =>
          intro l
          simp only [chunk]
          rw [List.take_take, Nat.min_eq_left (by rw [Nat.succ_mul]; omega), List.drop_take, show (n + 1) * sz - sz = n * sz from by rw [Nat.succ_mul]; omega, ih]
      rw [hch] at c1 c2 c3
      have key : ∀ i j el x, (chunk sz len (cells.drop off))[i]? = some el → el[j]? = some x → cells[off + (i * sz + j)]? = some x ∧ off + (i * sz + j) < cells.length := by
        intro i j el x hi hj
        have hel : el.length = sz := c2 el (List.mem_of_getElem? hi)
        have hjs : j < sz := by rw [← hel]; exact (List.getElem?_eq_some_iff.1 hj).1
        have hil : i < len := by rw [← c3]; exact (List.getElem?_eq_some_iff.1 hi).1
        have hfl : ((chunk sz len (cells.drop off)).flatten)[i * sz + j]? = some x := by
          rw [flatten_get c2 hjs, hi]; exact hj
        rw [c1, List.getElem?_take, List.getElem?_drop] at hfl
        split at hfl
        · exact ⟨hfl, (List.getElem?_eq_some_iff.1 hfl).1⟩
        · cases hfl
      have := VR.sl (w := w) (κ := addIm κ b cells.length) .no ⟨b, off, none⟩ cap sz (chunk sz len (cells.drop off)) (fun i j => c.getD (off + (i * sz + j)) undef) (by simp) (by rw [c3]; exact hcap) (by simp) (by simp) c2
        (fun i j el x hi hj => by
          obtain ⟨k1, k2⟩ := key i j el x hi hj
          have hg : c.getD (off + (i * sz + j)) undef = c[off + (i * sz + j)]'(by omega) := by simp [Array.getD, hsz, k2]
          exact ⟨by rw [add_mk, hrow.cell, hg]; exact Array.getElem?_eq_getElem _, .inr ⟨rfl, k2⟩, by rw [hg]; exact h1 _ (Array.getElem_mem ..)⟩)
        (fun i j el x hi hj => by
          obtain ⟨k1, k2⟩ := key i j el x hi hj
          have hg : c.getD (off + (i * sz + j)) undef = c[off + (i * sz + j)]'(by omega) := by simp [Array.getD, hsz, k2]
          rw [hg]; exact (hv _ _ _ k1 (Array.getElem?_eq_getElem _)).mono hext)
      rw [c3] at this
      exact this
  | agg l l' hl _ ih =>
    intro v h
    cases h with
    | agg _ cs h2 h3 h4 =>
      refine .agg _ cs (by rw [← hl]; exact h2) h3 fun j x' u hx' hu => ?_
      · have hj : j < l.length := by rw [hl]; exact (List.getElem?_eq_some_iff.1 hx').1
        exact ih j _ x' (List.getElem?_eq_getElem hj) hx' (h4 j _ u (List.getElem?_eq_getElem hj) hu)
  | tup l l' hl _ ih =>
    intro v h
    cases h with
    | tup _ cs h2 h4 =>
      refine .tup _ cs (by rw [← hl]; exact h2) fun j x' u hx' hu => ?_
      · have hj : j < l.length := by rw [hl]; exact (List.getElem?_eq_some_iff.1 hx').1
        exact ih j _ x' (List.getElem?_eq_getElem hj) hx' (h4 j _ u (List.getElem?_eq_getElem hj) hu)

theorem StR.le {w : World} {κ : Im} {st st' : St} (h : StR G w κ st) (k : St.le st' st) : StR G w κ st' :=
  let ⟨p, h1, h2⟩ := k
  (h.perm h1).drop h2
theorem own_le {st st' : St} (k : St.le st' st) : ∀ b ∈ own st', b ∈ own st :=
  let ⟨p, h1, h2⟩ := k
  fun b hb => (own_perm h1).subset (own_sub h2 b hb)

theorem VR.weak {w : World} {κ : Im} {x x' : AV} (hz : Wk x x') : ∀ {v : Value}, VR w κ x v → VR w κ x' v := by
  induction hz with
  | refl x => exact fun h => h
  | any x => exact fun _ => .any _
  | slno app sz els hn =>
    intro v h
    cases h with
    | nilsl => exact absurd rfl hn
    | sl _ a c _ _ cv _ hc hf ht hz hcell hv => exact .sl .no a c sz els cv (by simp) hc (by simp) (by simp) hz hcell hv
  | retag t t' b off =>
    intro v h
    cases h with
    | optr => exact .optr _ _ _
  | retagS t t' b off len =>
    intro v h
    cases h with
    | osl _ _ _ _ c hc => exact .osl _ _ _ _ c hc
  | agg l l' hl _ ih =>
    intro v h
    cases h with
    | agg _ cs h2 h3 h4 =>
      refine .agg _ cs (by rw [← hl]; exact h2) h3 fun j x' u hx' hu => ?_
      · have hj : j < l.length := by rw [hl]; exact (List.getElem?_eq_some_iff.1 hx').1
        exact ih j _ x' (List.getElem?_eq_getElem hj) hx' (h4 j _ u (List.getElem?_eq_getElem hj) hu)
  | tup l l' hl _ ih =>
    intro v h
    cases h with
    | tup _ cs h2 h4 =>
      refine .tup _ cs (by rw [← hl]; exact h2) fun j x' u hx' hu => ?_
      · have hj : j < l.length := by rw [hl]; exact (List.getElem?_eq_some_iff.1 hx').1
        exact ih j _ x' (List.getElem?_eq_getElem hj) hx' (h4 j _ u (List.getElem?_eq_getElem hj) hu)

theorem Frz.sound {N : Nat} {w : World} {a : Act} {fr fr' : Fr} {st st' : St} (h : Frz fr st fr' st') : ∀ {κ : Im}, FrR N w κ fr a → StR G w κ st → ∃ κ', FrR N w κ' fr' a ∧ StR G w κ' st' ∧ Stp (own st) w κ w κ' ∧ Mine (own st) w (own st') := by
  induction h with
  | done h1 h2 => exact fun hf hs => ⟨_, hf.weak h1, hs.le h2, .refl _ _ _, fun b hb => .inl (own_le h2 b hb)⟩
  | weak h1 h2 ih =>
    intro κ hf hs
    exact ih ⟨hf.size, hf.defers, fun i x' hi => by obtain ⟨x, hx, hz⟩ := h1 _ _ hi; exact VR.weak hz (hf.slot i x hx)⟩ hs
  | row app n sz hl h2 ih =>
    intro κ hf hs
    have hb : Seg.blk (.row app n sz) = none := by cases app <;> first | rfl | cases hl
    have ho : ∀ st : St, own (.row app n sz :: st) = own st := fun st => by simp [own, hb]
    have := ih hf ⟨hs.glob, fun s hm => by
      rcases List.mem_cons.1 hm with rfl | hm
      · cases app <;> first | trivial | cases hl
      · exact hs.seg s hm, by rw [ho]; exact hs.nodup, hs.lt⟩
    rwa [ho] at this
  | @retag fr fr' l₁ l₂ st' t t' b cells h2 ih =>
    intro κ hf hs
    have ho : own (l₁ ++ .obj t' b cells :: l₂) = own (l₁ ++ .obj t b cells :: l₂) := by simp [own, Seg.blk]
    have := ih hf ⟨hs.glob, fun s hm => by
      have hm' : s ∈ l₁ ∨ s = .obj t' b cells ∨ s ∈ l₂ := by simpa using hm
      rcases hm' with q | rfl | q
      · exact hs.seg s (by simp [q])
      · exact (hs.seg (.obj t b cells) (by simp) : SegR w κ (.obj t b cells))
      · exact hs.seg s (by simp [q]), by rw [ho]; exact hs.nodup, hs.lt⟩
    rwa [ho] at this
  | @step fr fr1 fr' l₁ l₂ st' tag b sz cells h1 h2 ih =>
    intro κ hf hs
    obtain ⟨c, hrow, hsz, hone, hnk, hvr⟩ := hs.seg (.obj tag b cells) (by simp)
    have hext : Ext w κ w (addIm κ b cells.length) := ⟨fun _ _ q => .inl q, fun _ _ _ => rfl⟩
    have hnd : (own l₁ ++ b :: own l₂).Nodup := by have := hs.nodup; simpa [own, Seg.blk] using this
    have hne : ∀ s ∈ l₁ ++ l₂, ∀ b', s.blk = some b' → b' ≠ b := by
      intro s hm b' hb' e
      subst e
      have hin : b' ∈ own l₁ ++ own l₂ := by
        rcases List.mem_append.1 hm with q | q
        · exact List.mem_append_left _ (List.mem_filterMap.2 ⟨s, q, hb'⟩)
        · exact List.mem_append_right _ (List.mem_filterMap.2 ⟨s, q, hb'⟩)
      have := (List.perm_middle (a := b') (l₁ := own l₁) (l₂ := own l₂)).nodup_iff.1 hnd
      exact (List.nodup_cons.1 this).1 hin
    have hsub : ∀ s ∈ l₁ ++ l₂, s ∈ l₁ ++ .obj tag b cells :: l₂ := fun s hm => by
      rcases List.mem_append.1 hm with q | q <;> simp [q]
    have hf1 : FrR N w (addIm κ b cells.length) fr1 a := ⟨hf.size, hf.defers, fun i x' hi => by
      obtain ⟨x, hx, hz⟩ := h1 _ _ hi
      exact VR.freeze hrow hsz hone hvr hz (hf.slot i x hx)⟩
    have hs1 : StR G w (addIm κ b cells.length) (l₁ ++ l₂) := by
      refine ⟨fun g => (hs.glob g).mono hext, fun s hm => ?_, ?_, fun b' o q => ?_⟩
      · refine (hs.seg s (hsub s hm)).keep hext fun b' hb' => ⟨rfl, fun o q => ?_⟩
        rcases q with q | ⟨q, _⟩
        · exact q
        · exact absurd q (hne s hm b' hb')
      · have := (List.perm_middle (a := b) (l₁ := own l₁) (l₂ := own l₂)).nodup_iff.1 hnd
        have h2 := (List.nodup_cons.1 this).2
        simpa [own] using h2
      · rcases q with q | ⟨rfl, _⟩
        · exact hs.lt _ _ q
        · exact hrow.lt
    obtain ⟨κ', k1, k2, k3, k4⟩ := ih hf1 hs1
    have hown : ∀ b' ∈ own (l₁ ++ l₂), b' ∈ own (l₁ ++ .obj tag b cells :: l₂) := fun b' hb' => by
      simp only [own, List.filterMap_append, List.mem_append, List.filterMap_cons, Seg.blk, List.mem_cons] at hb' ⊢
      exact hb'.imp id .inr
    have hstp : Stp (own (l₁ ++ .obj tag b cells :: l₂)) w κ w (addIm κ b cells.length) := ⟨hext, rfl, rfl, rfl, Nat.le_refl _, fun _ _ _ => rfl, fun b' o q _ hn => by
      rcases q with q | ⟨rfl, _⟩
      · exact q
      · exact absurd (by simp [own, Seg.blk]) hn⟩
    have hmine : Mine (own (l₁ ++ .obj tag b cells :: l₂)) w (own (l₁ ++ l₂)) := fun b' hb' => .inl (hown b' hb')
    exact ⟨κ', k1, k2, hstp.trans hmine k3, hmine.trans (Nat.le_refl _) k4⟩

theorem AWP.frz {N : Nat} {c : Code} {Q : AQ} {fr fr' : Fr} {st st' : St} (hz : Frz fr st fr' st') (h : AWP P G N c Q fr' st') : AWP P G N c Q fr st := fun a w κ hf hs => by
  obtain ⟨κ', k1, k2, k3, k4⟩ := hz.sound hf hs
  exact wp_mono (h a w κ' k1 k2) fun e a2 w2 q => Post.trans k3 k4 q

/-- A loop, with the engine's goal. -/
theorem AWP.loop' {N : Nat} {c : Code} {Q : AQ} {fr : Fr} {st : St} (I : Nat → Fr → St → Prop) (n₀ : Nat) (h₀ : ∃ fr' st', Frz fr st fr' st' ∧ I n₀ fr' st')
    (round : ∀ n fr st, I n fr st → AWP P G N c (AQ.then (fun fr' st' => ∃ m, m < n ∧ ∃ fr'' st'', Frz fr' st' fr'' st'' ∧ I m fr'' st'') Q) fr st) : AWP P G N (.loop c) Q fr st := by
  obtain ⟨fr0, st0, hz, hI0⟩ := h₀
  refine AWP.frz hz ?_
  intro a w κ hf hs
  refine wp_loop_ghost (fun n a' w' => ∃ fr' st' κ', I n fr' st' ∧ FrR N w' κ' fr' a' ∧ StR G w' κ' st' ∧ Stp (own st0) w κ w' κ' ∧ Mine (own st0) w (own st')) n₀
    ⟨fr0, st0, κ, hI0, hf, hs, .refl _ _ _, .refl _ _⟩ ?_
  rintro n a' w' ⟨fr1, st1, κ1, hI, h1, h2, h3, h4⟩
  refine wp_mono (round n fr1 st1 hI a' w' κ1 h1 h2) fun e a2 w2 q => ?_
  have q' := Post.trans h3 h4 q
  obtain ⟨fr2, st2, κ2, hq, k1, k2, k3, k4⟩ := q'
  cases e with
  | normal =>
    obtain ⟨m, hm, fr3, st3, hz3, hI3⟩ := hq
    obtain ⟨κ3, g1, g2, g3, g4⟩ := hz3.sound k1 k2
    exact ⟨m, hm, fr3, st3, κ3, hI3, g1, g2, k3.trans k4 g3, k4.trans k3.size g4⟩
  | _ => exact ⟨fr2, st2, κ2, hq, k1, k2, k3, k4⟩

theorem vc_sound {N : Nat} {hs : List Nat} {tag : Nat} : ∀ (code : Code) (c : C), abs P G N hs tag code = some c → ∀ (Q : AQ) (fr : Fr) (st : St), vc P G c Q fr st → AWP P G N code Q fr st := by
  intro code
  induction code with
  | skip => intro c h Q fr st hv; simp [abs] at h; subst h; exact .skip hv
  | ret => intro c h Q fr st hv; simp [abs] at h; subst h; exact .ret hv
  | exit id => intro c h Q fr st hv; simp [abs] at h; subst h; exact .exit hv
  | seq x y ihx ihy =>
    intro c h Q fr st hv
    unfold abs at h
    split at h
    · rename_i a b ha hb
      cases h
      refine .seq (AWP.mono (ihx a ha _ fr st hv) fun e fr st q => ?_)
      cases e with
      | normal => exact ihy b hb _ fr st q
      | _ => exact q
    · cases h
  | cond c x y ihx ihy =>
    intro c' h Q fr st hv
    unfold abs at h
    split at h
    · rename_i a b ha hb
      cases h
      obtain ⟨t, ht, hv⟩ := withBool_elim hv
      have feq : ∀ {code : Code} {Q : AQ} {fr' : Fr}, FEq fr' fr → AWP P G N code Q fr' st → AWP P G N code Q fr st := fun e q a w κ hf hs => q a w κ ⟨hf.size, hf.defers, fun i x hi => hf.slot i x ((e i).symm.trans hi)⟩ hs
      refine .cond (t := t) (fun a w κ hf hst => (at_of hf hst (.of _ _ _) ht).bool_inv) (fun e => ?_) (fun e => ?_)
      · subst e; exact feq (setY_eq ht) (ihx a ha _ _ st hv)
      · subst e; exact feq (setY_eq ht) (ihy b hb _ _ st hv)
    · cases h
  | block id b ih =>
    intro c h Q fr st hv
    unfold abs at h
    obtain ⟨b', hb, rfl⟩ := Option.map_eq_some_iff.1 h
    exact .block (ih b' hb _ fr st hv)
  | loop b ih =>
    intro c h Q fr st hv
    unfold abs at h
    obtain ⟨b', hb, rfl⟩ := Option.map_eq_some_iff.1 h
    obtain ⟨I, n, h0, hr⟩ := LoopGoal.out hv
    exact .loop' I n h0 fun n fr st hI => ih b' hb _ fr st (hr n fr st hI)
  | region id ops draw =>
    intro c h Q fr st hv
    unfold abs at h
    split at h
    · rename_i l hl
      obtain ⟨hsz, hfit⟩ := absOs_spec hl
      have hfit' : ∀ (i : Nat) o, ops[i]? = some o → ∃ ao, l[i]? = some ao ∧ Fits P G N ops o ao := fun i o ho => hfit i o (by simpa using ho)
      -- a place to finish what is owned
      have fz : ∀ {r : List AO}, vc P G (withFrz hs id (.reg r)) Q fr st → ∃ fr' st', Frz fr st fr' st' ∧ vcO P G r fr' st' (Clo (Q .normal)) := fun {r} hv => by
        unfold withFrz at hv
        split at hv
        · obtain ⟨fr', st', h1, h2⟩ := FrzGoal.out (show FrzGoal _ fr st from hv)
          exact ⟨fr', st', h1, ucO_vcO _ h2⟩
        · exact ⟨fr, st, .refl fr st, ucO_vcO _ hv⟩
      split at h
      · rename_i hdraw
        subst hdraw
        split at h
        · rename_i hm
          obtain ⟨r, hr, rfl⟩ := Option.map_eq_some_iff.1 h
          obtain ⟨fr', st', hz, hv'⟩ := fz hv
          refine AWP.frz hz ?_
          intro a w κ hf hst
          refine wp_region_any hm ?_
          have hsame : Same w { w with drawn := w.drawn + 1 } := ⟨rfl, rfl, rfl, rfl⟩
          refine drawn_sound hfit' (by simpa using hsz) hr hv' (hf.mono (hsame.stp (own st') κ).ext) (hsame.str hst) fun fr2 st2 κ2 a2 w2 hK hf2 hst2 hstp hmine => ?_
          exact Post.trans (hsame.stp (own st') κ) (.refl _ _) (Post.clo hK hf2 hst2 hstp hmine)
        · cases h
      · cases h
        rename_i hd
        have hd' : draw = false := by simpa using hd
        subst hd'
        obtain ⟨fr', st', hz, hv'⟩ := fz hv
        refine AWP.frz hz ?_
        intro a w κ hf hst
        exact wp_region_list (vcO_sound ops.toList l hl fr' st' _ hv' a w κ _ hf hst fun fr' st' κ' a' w' hK hf' hst' hstp hmine => Post.clo hK hf' hst' hstp hmine)
    · cases h
  | rangeFunc f p as b iha ihb => intro c h; simp [abs] at h
  | scope b ih => intro c h; simp [abs] at h
  | label l => intro c h; simp [abs] at h
  | goto l => intro c h; simp [abs] at h
  | refuse s => intro c h; simp [abs] at h

/-! ### What a function hands back -/
def resOf (tmps : Array Value) : ResultVar → Sem Value
  | .tmp t => pure (tmps.getD t undef)
  | .cell a t => do loadVar t (← asAddr (tmps.getD a undef))

theorem run_loadVC {t : TypeId} (hok : okT P t = true) {x : Option AV} {st : St} {K : AV → Prop} (h : loadVC (P.cellsOf t) (aggT P t) x st K) {w : World} {κ : Im} {u : Value} (hu : ∀ y, x = some y → VR w κ y u) (hs : StR G w κ st) :
    ∃ y v, K y ∧ VR w κ y v ∧ (do loadVar t (← asAddr u) : Sem Value).run P w = .ok v w := by
  unfold loadVC at h
  split at h
  · obtain ⟨hl, hK⟩ := h
    obtain ⟨ad, cv, hA, hcell, hv⟩ := ptr_inv (hu _ rfl)
    obtain ⟨v, hvr, hrun⟩ := run_loadVar' (P := P) (fun j x hx => (hcell j x hx).1) (fun j x hx => (hcell j x hx).2.2) hv hok hl
    exact ⟨_, v, hK, hvr, by subst hA; simpa [asAddr] using hrun w rfl⟩
  · obtain ⟨cells, hfo, hl, hK⟩ := withObj_elim h
    have hA := optr_inv (hu _ rfl)
    rename_i off
    obtain ⟨cv, h1, h2, h3⟩ := obj_read hs hfo off
    obtain ⟨v, hvr, hrun⟩ := run_loadVar' (P := P) h1 h2 h3 hok (by simp; omega)
    rw [partAV_drop] at hvr
    exact ⟨_, v, hK, hvr, by subst hA; simpa [asAddr] using hrun w rfl⟩
  · exact h.elim

theorem rvVC_mono {v : RV} {fr : Fr} {st : St} {K K' : AV → Prop} (h : ∀ x, K x → K' x) (q : rvVC v fr st K) : rvVC v fr st K' := by
  cases v with
  | t n => exact withAV_mono h q
  | cell a sz agg => exact loadVC_mono h q
theorem rvsVC_mono {fr : Fr} {st : St} : ∀ {ts : List RV} {K K' : List AV → Prop}, (∀ x, K x → K' x) → rvsVC ts fr st K → rvsVC ts fr st K'
  | [], _, _, h, q => h _ q
  | _ :: _, _, _, h, q => rvVC_mono (fun x => rvsVC_mono fun xs => h _) q
theorem retVC_mono {ts : List RV} {fr : Fr} {st : St} {K K' : AV → Prop} (h : ∀ x, K x → K' x) (q : retVC ts fr st K) : retVC ts fr st K' := by
  unfold retVC at *
  split at q
  · exact rvVC_mono h q
  · exact rvsVC_mono (fun xs => h _) q

theorem rvVC_elim {t : RV} {rv : ResultVar} (h : absRes P [rv] = some [t]) {N : Nat} {fr : Fr} {st : St} {K : AV → Prop} (hv : rvVC t fr st K) {w : World} {κ : Im} {a : Act} (hf : FrR N w κ fr a) (hs : StR G w κ st) :
    ∃ x v, K x ∧ VR w κ x v ∧ (resOf a.tmps rv).run P w = .ok v w := by
  cases rv with
  | tmp n =>
    simp [absRes] at h
    subst h
    obtain ⟨x, hx, hK⟩ := withAV_elim hv
    exact ⟨x, _, hK, hf.slot n x hx, rfl⟩
  | cell n t' =>
    simp only [absRes] at h
    split at h
    · rename_i hok
      simp at h
      subst h
      obtain ⟨x, v, hK, hvr, hrun⟩ := run_loadVC (P := P) hok hv (fun x hx => hf.slot n x hx) hs
      exact ⟨x, v, hK, hvr, hrun⟩
    · cases h
theorem absRes_cons {rv : ResultVar} {r : List ResultVar} {ts : List RV} (h : absRes P (rv :: r) = some ts) : ∃ t ts', ts = t :: ts' ∧ absRes P [rv] = some [t] ∧ absRes P r = some ts' := by
  cases rv with
  | tmp n =>
    simp only [absRes] at h ⊢
    obtain ⟨ts', h1, rfl⟩ := Option.map_eq_some_iff.1 h
    exact ⟨_, _, rfl, rfl, h1⟩
  | cell n t' =>
    simp only [absRes] at h ⊢
    split at h
    · obtain ⟨ts', h1, rfl⟩ := Option.map_eq_some_iff.1 h
      exact ⟨_, _, rfl, by rw [if_pos (by assumption)]; rfl, h1⟩
    · cases h
theorem rvsVC_elim {N : Nat} {fr : Fr} {st : St} {w : World} {κ : Im} {a : Act} (hf : FrR N w κ fr a) (hs : StR G w κ st) : ∀ {rvs : List ResultVar} {ts : List RV} {K : List AV → Prop}, absRes P rvs = some ts → rvsVC ts fr st K →
    ∃ xs vs, K xs ∧ (rvs.mapM (resOf a.tmps)).run P w = .ok vs w ∧ xs.length = vs.length ∧ vs.length = rvs.length ∧ ∀ (j : Nat) x v, xs[j]? = some x → vs[j]? = some v → VR w κ x v
  | [], ts, K, h, hv => by
    simp [absRes] at h; subst h
    exact ⟨[], [], hv, by simp, rfl, rfl, by simp⟩
  | rv :: r, ts, K, h, hv => by
    obtain ⟨t, ts', rfl, h1, h2⟩ := absRes_cons h
    obtain ⟨x, v, hK, hvr, hrun⟩ := rvVC_elim h1 (show rvVC t fr st _ from hv) hf hs
    obtain ⟨xs, vs, hK2, hr2, l1, l2, hvs⟩ := rvsVC_elim hf hs h2 hK
    refine ⟨x :: xs, v :: vs, hK2, ?_, by simp [l1], by simp [l2], fun j x' v' hx hv' => ?_⟩
    · rw [List.mapM_cons]
      simp only [Sem.run_bind, hrun, hr2, Result.andThen_ok, Sem.run_pure]
    · cases j with
      | zero => simp at hx hv'; subst hx hv'; exact hvr
      | succ j => exact hvs j x' v' (by simpa using hx) (by simpa using hv')
theorem retVC_elim {fn : Func} {ts : List RV} (h : absRes P fn.results.toList = some ts) {N : Nat} {fr : Fr} {st : St} {K : AV → Prop} (hv : retVC ts fr st K) {w : World} {κ : Im} {a : Act} (hf : FrR N w κ fr a) (hs : StR G w κ st) :
    ∃ x v, K x ∧ VR w κ x v ∧ (results fn a.tmps).run P w = .ok v w := by
  have h0 : results fn a.tmps = (do let vs ← fn.results.mapM (resOf a.tmps); pure (if h : vs.size = 1 then vs[0] else .tuple vs)) := by
    unfold results
    congr 1
  have h1 : fn.results = fn.results.toList.toArray := by simp
  rw [h0, h1]
  generalize fn.results.toList = rvs at h
  simp only [List.mapM_toArray, Sem.run_bind, Sem.run_map]
  match ts, hv with
  | [t], hv =>
    match rvs, h with
    | [], h => simp [absRes] at h
    | rv :: r, h =>
      obtain ⟨t', ts', e, g1, g2⟩ := absRes_cons h
      cases e
      have hr : r = [] := by
        cases r with
        | nil => rfl
        | cons rv2 r2 => obtain ⟨_, _, e, _⟩ := absRes_cons g2; cases e
      subst hr
      obtain ⟨x, v, hK, hvr, hrun⟩ := rvVC_elim g1 (show rvVC t fr st _ from hv) hf hs
      exact ⟨x, v, hK, hvr, by rw [List.mapM_cons]; simp [Sem.run_bind, hrun]⟩
  | [], hv =>
    obtain ⟨xs, vs, hK, hrun, l1, l2, hvs⟩ := rvsVC_elim (K := fun vs => K (.tup vs)) hf hs h hv
    have : rvs = [] := by
      cases rvs with
      | nil => rfl
      | cons rv r => obtain ⟨_, _, e, _⟩ := absRes_cons h; cases e
    subst this
    have e : vs = [] := List.length_eq_zero_iff.1 (by simpa using l2)
    subst e
    exact ⟨_, _, hK, .tup xs #[] (by simpa using l1) (by simp), by rw [hrun]; simp⟩
  | t :: u :: r, hv =>
    obtain ⟨xs, vs, hK, hrun, l1, l2, hvs⟩ := rvsVC_elim (K := fun vs => K (.tup vs)) hf hs h hv
    have l3 : ¬ vs.toArray.size = 1 := by
      obtain ⟨_, _, e, _, g2⟩ : ∃ t' ts', t :: u :: r = t' :: ts' ∧ True ∧ absRes P rvs.tail = some ts' := by
        cases rvs with
        | nil => simp [absRes] at h
        | cons rv r' => obtain ⟨t', ts', e, _, g2⟩ := absRes_cons h; exact ⟨t', ts', e, trivial, g2⟩
      cases e
      have : rvs.tail ≠ [] := fun e => by rw [e] at g2; simp [absRes] at g2
      have : 2 ≤ rvs.length := by
        match rvs, this with
        | [], h => simp at h
        | [_], h => simp at h
        | _ :: _ :: _, _ => simp
      simp; omega
    refine ⟨_, _, hK, .tup xs vs.toArray (by simp [l1]) (fun j x v hx hv => hvs j x v hx (by simpa using hv)), ?_⟩
    rw [hrun]
    simp only [Result.andThen_ok, Sem.run_pure, dif_neg l3]

/-- A function as this engine sees it: how many slots, what it hands back, its code. -/
def FnC (P : Program) (G : Nat → AV) (hs : List Nat) (f : FuncId) : Option (Nat × List RV × C) := match P.funcs[f]? with
  | some fn => match fn.body with
    | some code => match absRes P fn.results.toList, abs P G fn.ntmps hs (f * 1000) code with
      | some ts, some c => some (fn.ntmps, ts, c)
      | _, _ => none
    | none => none
  | none => none
/-- A function's contract, of its code as this engine sees it. -/
theorem ACall.mk {f : FuncId} {fn : Func} {code : Code} {c : C} {hs : List Nat} {tag : Nat} {ts : List RV} {args : List AV} {R : AV → St → Prop} {st : St} (hf : P.funcs[f]? = some fn) (hb : fn.body = some code) (hn : args.length ≤ fn.ntmps)
    (hr : absRes P fn.results.toList = some ts) (hc : abs P G fn.ntmps hs tag code = some c)
    (h : vc P G c (fun e fr st => (e = .ret ∨ e = .normal) ∧ RetGoal ts R fr st) (argFr 0 args) st) : ACall P G f args R st := by
  intro w κ cargs hsz hv hst
  refine calls_of_wp hf hb ?_
  have hfr : FrR fn.ntmps w κ (argFr 0 args) { tmps := cargs ++ Array.replicate (fn.ntmps - cargs.size) undef, defers := [] } := by
    refine ⟨by simp; omega, rfl, fun i x hi => ?_⟩
    obtain ⟨_, hx⟩ := argFr_get args 0 i x hi
    simp only [Nat.sub_zero] at hx
    have hlt : i < cargs.size := by
      rw [hsz]
      exact (List.getElem?_eq_some_iff.1 hx).1
    have := hv i x cargs[i] hx (by simp [hlt])
    simpa [Array.getD_eq_getD_getElem?, Array.getElem?_append, hlt] using this
  refine wp_mono (vc_sound code c hc _ _ _ h _ w κ hfr hst) fun e a' w' q => ?_
  obtain ⟨fr1, st1, κ1, ⟨he, hg⟩, h1, h2, h3, h4⟩ := q
  obtain ⟨fr2, st2, hz, hv2⟩ := hg.out
  obtain ⟨κ2, k1, k2, k3, k4⟩ := hz.sound h1 h2
  obtain ⟨x, v, ⟨st3, hle, hR⟩, hvr, hrun⟩ := retVC_elim hr hv2 k1 k2
  have hstp := h3.trans h4 k3
  have hmine : Mine (own st) w (own st3) := fun b hb => (h4.trans h3.size k4) b (own_le hle b hb)
  rcases he with rfl | rfl
  · exact ⟨h1.defers, v, hrun, x, v, st3, κ2, rfl, hR, hvr, k2.le hle, hstp, hmine⟩
  · exact ⟨h1.defers, v, hrun, x, v, st3, κ2, rfl, hR, hvr, k2.le hle, hstp, hmine⟩
theorem ACall.fn {f : FuncId} {n : Nat} {ts : List RV} {c : C} {hs : List Nat} {args : List AV} {R : AV → St → Prop} {st : St} (hk : FnC P G hs f = some (n, ts, c)) (hn : args.length ≤ n)
    (h : vc P G c (fun e fr st => (e = .ret ∨ e = .normal) ∧ RetGoal ts R fr st) (argFr 0 args) st) : ACall P G f args R st := by
  unfold FnC at hk
  split at hk
  · rename_i fn hf
    split at hk
    · rename_i code hb
      split at hk
      · rename_i ts' c' hr hc
        cases hk
        exact ACall.mk hf hb hn hr hc h
      · cases hk
    · cases hk
  · cases hk
end Go.Eng
