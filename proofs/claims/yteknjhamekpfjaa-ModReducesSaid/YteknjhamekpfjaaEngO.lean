/- The engine, part O: a region that draws its order: one order serves for all. -/
import Derived.Test.YteknjhamekpfjaaEngM
set_option linter.unusedVariables false
set_option linter.unusedSimpArgs false
namespace Go.Eng
open Go.RowKit

variable {P : Program} {G : Nat → AV}

/-! ### One operation's goal -/
def stepO (P : Program) (G : Nat → AV) (o : AO) (fr : Fr) (st : St) (K : AV → St → Prop) : Prop := vcG o.g fr (vcK P G o.k fr st K) (K .und st)
def vcI (P : Program) (G : Nat → AV) (o : AO) (K : Fr → St → Prop) (fr : Fr) (st : St) : Prop := stepO P G o fr st fun x st' => K (putFr o.dst x fr) st'

theorem vcO_cons (o : AO) (os : List AO) (fr : Fr) (st : St) (K : Fr → St → Prop) : vcO P G (o :: os) fr st K = vcI P G o (fun fr st => vcO P G os fr st K) fr st := rfl

/-! ### Monotone -/
theorem withAV_mono {x : Option AV} {F F' : AV → Prop} (h : ∀ v, F v → F' v) (k : withAV x F) : withAV x F' := by
  obtain ⟨v, rfl, hv⟩ := withAV_elim k; exact h v hv
theorem withAVs_mono {x : Option (List AV)} {F F' : List AV → Prop} (h : ∀ v, F v → F' v) (k : withAVs x F) : withAVs x F' := by
  obtain ⟨v, rfl, hv⟩ := withAVs_elim k; exact h v hv
theorem withInt_mono {x : Option AV} {F F' : IntKind → Int → Prop} (h : ∀ k n, F k n → F' k n) (k : withInt x F) : withInt x F' := by
  obtain ⟨_, _, rfl, hv⟩ := withInt_elim k; exact h _ _ hv
theorem withBool_mono {x : Option AV} {F F' : Bool → Prop} (h : ∀ b, F b → F' b) (k : withBool x F) : withBool x F' := by
  obtain ⟨_, rfl, hv⟩ := withBool_elim k; exact h _ hv
theorem withStr_mono {x : Option AV} {F F' : List UInt8 → Prop} (h : ∀ b, F b → F' b) (k : withStr x F) : withStr x F' := by
  obtain ⟨_, rfl, hv⟩ := withStr_elim k; exact h _ hv
theorem withSl_mono {x : Option AV} {F F' : App → Nat → List (List AV) → Prop} (h : ∀ a b c, F a b c → F' a b c) (k : withSl x F) : withSl x F' := by
  obtain ⟨_, _, _, rfl, hv⟩ := withSl_elim k; exact h _ _ _ hv
theorem withAgg_mono {x : Option AV} {F F' : List AV → Prop} (h : ∀ b, F b → F' b) (k : withAgg x F) : withAgg x F' := by
  obtain ⟨_, rfl, hv⟩ := withAgg_elim k; exact h _ hv
theorem withObj_mono {st : St} {tag b : Nat} {F F' : List AV → Prop} (h : ∀ c, F c → F' c) (k : withObj st tag b F) : withObj st tag b F' := by
  obtain ⟨c, hf, hv⟩ := withObj_elim k
  simp only [withObj, hf]; exact ⟨trivial, h _ hv⟩
theorem bnd_mono {fr : Fr} {x : Option Y} {d : Int} {F F' : Int → Prop} (h : ∀ n, F n → F' n) (k : bnd fr x d F) : bnd fr x d F' := by
  cases x with
  | none => exact h _ k
  | some y => exact withInt_mono (fun _ n => h n) k
theorem withParts_mono {fr : Fr} : ∀ {l : List (Nat × Nat × Y)} {F F' : List (Nat × AV) → Prop}, (∀ p, F p → F' p) → withParts fr l F → withParts fr l F'
  | [], _, _, h, k => h _ k
  | (_, _, _) :: r, F, F', h, k => withAV_mono (fun v ⟨q, k⟩ => ⟨q, withParts_mono (fun p => h _) k⟩) k
theorem isnilVC_mono {sl : Bool} {x : Option AV} {F F' : Bool → Prop} (h : ∀ b, F b → F' b) (k : isnilVC sl x F) : isnilVC sl x F' := by
  cases sl with
  | true => simp only [isnilVC, isnilS] at *; split at k <;> first | exact h _ k | exact k.elim
  | false => simp only [isnilVC, isnilP] at *; split at k <;> first | exact h _ k | exact k.elim
theorem binVC_mono {op : BinOp} {k : IntKind} {a b : Int} {F F' : AV → Prop} (h : ∀ v, F v → F' v) (q : binVC op k a b F) : binVC op k a b F' := by
  cases op <;> first | exact h _ q | exact ⟨q.1, h _ q.2⟩ | exact q.elim
theorem shfVC_mono {op : BinOp} {k : IntKind} {a b : Int} {F F' : AV → Prop} (h : ∀ v, F v → F' v) (q : shfVC op k a b F) : shfVC op k a b F' := by
  cases op <;> first | exact ⟨q.1, h _ q.2⟩ | exact q.elim
theorem sbinVC_mono {op : BinOp} {a b : List UInt8} {F F' : AV → Prop} (h : ∀ v, F v → F' v) (q : sbinVC op a b F) : sbinVC op a b F' := by
  cases op <;> first | exact h _ q | exact ⟨q.1, h _ q.2⟩ | exact q.elim
theorem loadVC_mono {sz : Nat} {agg : Bool} {x : Option AV} {st : St} {F F' : AV → Prop} (h : ∀ v, F v → F' v) (q : loadVC sz agg x st F) : loadVC sz agg x st F' := by
  unfold loadVC at *
  split at q
  · exact ⟨q.1, h _ q.2⟩
  · exact withObj_mono (fun c ⟨a, b⟩ => ⟨a, h _ b⟩) q
  · exact q.elim
theorem storeVC_mono {sz : Nat} {x y : Option AV} {st : St} {F F' : St → Prop} (h : ∀ v, F v → F' v) (q : storeVC sz x y st F) : storeVC sz x y st F' := by
  unfold storeVC at *
  split at q
  · exact withAV_mono (fun v => withObj_mono fun c ⟨a, b⟩ => ⟨a, h _ b⟩) q
  · exact q.elim
theorem idxAVC_mono {sz : Nat} {x : Option AV} {i : Int} {F F' : AV → Prop} (h : ∀ v, F v → F' v) (q : idxAVC sz x i F) : idxAVC sz x i F' := by
  unfold idxAVC at *
  split at q <;> first | exact ⟨q.1, h _ q.2⟩ | exact q.elim
theorem idxPVC_mono {n sz : Nat} {x : Option AV} {i : Int} {F F' : AV → Prop} (h : ∀ v, F v → F' v) (q : idxPVC n sz x i F) : idxPVC n sz x i F' := by
  unfold idxPVC at *
  split at q <;> first | exact ⟨q.1, h _ q.2⟩ | exact q.elim
theorem fldAVC_mono {off : Nat} {x : Option AV} {F F' : AV → Prop} (h : ∀ v, F v → F' v) (q : fldAVC off x F) : fldAVC off x F' := by
  unfold fldAVC at *
  split at q <;> first | exact h _ q | exact q.elim
theorem nckVC_mono {x : Option AV} {F F' : AV → Prop} (h : ∀ v, F v → F' v) (q : nckVC x F) : nckVC x F' := by
  unfold nckVC at *
  split at q <;> first | exact h _ q | exact q.elim
theorem sliceVC_mono {sz : Nat} {x : Option AV} {fr : Fr} {lo hi mx : Option Y} {F F' : AV → Prop} (h : ∀ v, F v → F' v) (q : sliceVC sz x fr lo hi mx F) : sliceVC sz x fr lo hi mx F' := by
  unfold sliceVC at *
  split at q
  · split at q
    · exact bnd_mono (fun _ => bnd_mono fun _ ⟨a, b⟩ => ⟨a, h _ b⟩) q
    · exact bnd_mono (fun _ => bnd_mono fun _ => withInt_mono fun _ _ ⟨a, b⟩ => ⟨a, h _ b⟩) q
  · split at q
    · exact bnd_mono (fun _ => bnd_mono fun _ ⟨a, b⟩ => ⟨a, h _ b⟩) q
    · exact q.elim
  · exact q.elim
theorem slicePVC_mono {n sz : Nat} {x : Option AV} {fr : Fr} {lo hi : Option Y} {F F' : AV → Prop} (h : ∀ v, F v → F' v) (q : slicePVC n sz x fr lo hi F) : slicePVC n sz x fr lo hi F' := by
  unfold slicePVC at *
  split at q
  · exact bnd_mono (fun _ => bnd_mono fun _ ⟨a, b⟩ => ⟨a, h _ b⟩) q
  · exact q.elim
theorem CallGoal.mono {f : FuncId} {args : List AV} {st : St} {K K' : AV → St → Prop} (h : ∀ x st', K x st' → K' x st') (q : CallGoal P G f args st K) : CallGoal P G f args st K' := by
  obtain ⟨R, s1, s2, a, b, c⟩ := q.out
  exact ⟨R, s1, s2, a, b, fun r st' hr => h _ _ (c r st' hr)⟩
theorem PCallGoal.mono {F : List Nat} {f : FuncId} {args : List AV} {st : St} {K K' : AV → St → Prop} (h : ∀ x st', K x st' → K' x st') (q : PCallGoal P G F f args st K) : PCallGoal P G F f args st K' := by
  obtain ⟨x, s1, s2, a, a', b, c⟩ := q.out
  exact ⟨x, s1, s2, a, a', b, h _ _ c⟩
theorem AppGoal.mono {sz bytes : Nat} {app : App} {els news : List (List AV)} {st : St} {K K' : AV → St → Prop} (h : ∀ x st', K x st' → K' x st') (q : AppGoal sz bytes app els news st K) : AppGoal sz bytes app els news st K' := by
  obtain ⟨a, b, c⟩ := q.out
  refine ⟨a, fun e => h _ _ (b e), ?_⟩
  rcases c with ⟨c1, c2⟩ | ⟨c1, l1, l2, c2, c3⟩
  · exact .inl ⟨c1, fun b cap => h _ _ (c2 b cap)⟩
  · exact .inr ⟨c1, l1, l2, c2, fun b cap => h _ _ (c3 b cap)⟩
theorem appVC_mono {sz bytes : Nat} {x y : Option AV} {st : St} {K K' : AV → St → Prop} (h : ∀ x st', K x st' → K' x st') (q : appVC sz bytes x y st K) : appVC sz bytes x y st K' := by
  unfold appVC at *
  split at q
  · obtain ⟨q1, q⟩ := q
    refine ⟨q1, ?_⟩
    split at q
    · exact ⟨q.1, q.2.mono h⟩
    · exact ⟨q.1, q.2.mono h⟩
    · exact withObj_mono (fun c ⟨a, b⟩ => ⟨a, b.mono h⟩) q
    · exact q.elim
  · exact q.elim
theorem copyVC_mono {sz : Nat} {x y : Option AV} {st : St} {K K' : AV → St → Prop} (h : ∀ x st', K x st' → K' x st') (q : copyVC sz x y st K) : copyVC sz x y st K' := by
  unfold copyVC at *
  split at q
  · refine withObj_mono (fun c ⟨a, b⟩ => ⟨a, ?_⟩) q
    split at b
    · exact ⟨b.1, h _ _ b.2⟩
    · exact withObj_mono (fun c ⟨a, b⟩ => ⟨a, h _ _ b⟩) b
    · exact b.elim
  · exact q.elim

theorem vcK_mono {k : AK} {fr : Fr} {st : St} {K K' : AV → St → Prop} (h : ∀ x st', K x st' → K' x st') (q : vcK P G k fr st K) : vcK P G k fr st K' := by
  cases k with
  | mv x => exact withAV_mono (fun v => h v st) q
  | pick c a b => exact withBool_mono (fun t ⟨q1, q2⟩ => ⟨fun e => withAV_mono (fun v => h v st) (q1 e), fun e => withAV_mono (fun v => h v st) (q2 e)⟩) q
  | bin op x y => exact withInt_mono (fun _ _ => withInt_mono fun _ _ ⟨e, q⟩ => ⟨e, binVC_mono (fun v => h v st) q⟩) q
  | shf op x y => exact withInt_mono (fun _ _ => withInt_mono fun _ _ q => shfVC_mono (fun v => h v st) q) q
  | sbin op x y => exact withStr_mono (fun _ => withStr_mono fun _ q => sbinVC_mono (fun v => h v st) q) q
  | isnil neg sl x => exact isnilVC_mono (fun b => h _ st) q
  | eqc neg n ls x y => exact withAgg_mono (fun _ => withAgg_mono fun _ ⟨a, b⟩ => ⟨a, h _ _ b⟩) q
  | eqb neg x y => exact withBool_mono (fun _ => withBool_mono fun _ b => h _ _ b) q
  | un op x =>
    simp only [vcK] at *
    cases op
    all_goals first
      | exact withInt_mono (fun _ _ b => h _ _ b) q
      | exact withBool_mono (fun _ b => h _ _ b) q
      | exact q.elim
  | cvt k x => exact withInt_mono (fun _ _ b => h _ _ b) q
  | s2b im x =>
    refine withStr_mono (fun l q => ?_) q
    cases im
    · exact fun b cap => h _ _ (q b cap)
    · exact h _ _ q
  | b2s x => exact withSl_mono (fun _ _ _ ⟨a, b⟩ => ⟨a, h _ _ b⟩) q
  | len x => simp only [vcK] at *; split at q <;> first | exact h _ _ q | exact q.elim
  | slen x => exact withStr_mono (fun _ b => h _ _ b) q
  | lenc n => exact h _ _ q
  | mm mx x y => exact withInt_mono (fun _ _ => withInt_mono fun _ _ ⟨a, b⟩ => ⟨a, h _ _ b⟩) q
  | idxA sz x i => exact withInt_mono (fun _ _ q => idxAVC_mono (fun v => h v st) q) q
  | idxP n sz x i => exact withInt_mono (fun _ _ q => idxPVC_mono (fun v => h v st) q) q
  | idxG n sz agg x i => exact withAgg_mono (fun _ => withInt_mono fun _ _ ⟨a, b⟩ => ⟨a, h _ _ b⟩) q
  | idxS x i => exact withStr_mono (fun _ => withInt_mono fun _ _ ⟨a, b⟩ => ⟨a, h _ _ b⟩) q
  | fldA off x => exact fldAVC_mono (fun v => h v st) q
  | fld off sz agg x => exact withAgg_mono (fun _ ⟨a, b⟩ => ⟨a, h _ _ b⟩) q
  | load sz agg x => exact loadVC_mono (fun v => h v st) q
  | loadX F sz agg x => exact ⟨q.1, loadVC_mono (fun v => h v st) q.2⟩
  | store sz x y => exact storeVC_mono (fun st' => h .any st') q
  | storeX t sz x y => exact ⟨q.1, storeVC_mono (fun st' => h .any st') q.2⟩
  | bad => exact q
  | nck x => exact nckVC_mono (fun v => h v st) q
  | slice sz x lo hi mx => exact sliceVC_mono (fun v => h v st) q
  | sslice x lo hi => exact withStr_mono (fun _ => bnd_mono fun _ => bnd_mono fun _ ⟨a, b⟩ => ⟨a, h _ _ b⟩) q
  | sliceP n sz x lo hi => exact slicePVC_mono (fun v => h v st) q
  | ext x i => simp only [vcK] at *; split at q <;> first | exact withAV_mono (fun v => h v st) q | exact q.elim
  | call f xs => exact withAVs_mono (fun _ q => q.mono h) q
  | pcall F f xs => exact withAVs_mono (fun _ q => q.mono h) q
  | callv f xs => simp only [vcK] at *; split at q <;> first | exact ⟨q.1, withAVs_mono (fun _ q => q.mono h) q.2⟩ | exact q.elim
  | carry sub x y c => exact withInt_mono (fun _ _ => withInt_mono fun _ _ => withInt_mono fun _ _ ⟨a, b⟩ => ⟨a, h _ _ b⟩) q
  | app sz bytes x y => exact appVC_mono h q
  | copy sz x y => exact copyVC_mono h q
  | alloc tag z => exact fun b => h _ _ (q b)
  | box im tag sz x =>
    refine withAV_mono (fun v ⟨a, q⟩ => ⟨a, ?_⟩) q
    cases im
    · exact fun b => h _ _ (q b)
    · exact h _ _ q
  | build z parts => exact withParts_mono (fun _ q => h _ _ q) q
  | bsl im tag len sz z parts =>
    refine withParts_mono (fun ps q => ?_) q
    cases im
    · exact fun b => h _ _ (q b)
    · exact h _ _ q
  | mks im tag sz bytes z l c =>
    refine withInt_mono (fun _ _ => withInt_mono fun _ _ ⟨a, q⟩ => ⟨a, ?_⟩) q
    cases im
    · exact fun b => h _ _ (q b)
    · exact h _ _ q
  | mkfn f caps => exact withAVs_mono (fun _ q => h _ _ q) q

theorem vcG_mono {g : Option (Nat × Bool)} {fr : Fr} {a a' b b' : Prop} (h : a → a') (k : b → b') (q : vcG g fr a b) : vcG g fr a' b' := by
  unfold vcG at *
  split at q
  · exact h q
  · split at q
    · exact ⟨fun e => h (q.1 e), fun e => k (q.2 e)⟩
    · exact k q
    · exact q
theorem stepO_mono {o : AO} {fr : Fr} {st : St} {K K' : AV → St → Prop} (h : ∀ x st', K x st' → K' x st') (q : stepO P G o fr st K) : stepO P G o fr st K' :=
  vcG_mono (vcK_mono h) (h _ _) q
theorem vcI_mono {o : AO} {fr : Fr} {st : St} {K K' : Fr → St → Prop} (h : ∀ fr st, K fr st → K' fr st) (q : vcI P G o K fr st) : vcI P G o K' fr st :=
  stepO_mono (fun _ _ => h _ _) q

theorem vcG_elim {g : Option (Nat × Bool)} {fr : Fr} {yes no : Prop} (h : vcG g fr yes no) : (g = none ∧ yes) ∨ (∃ j want b, g = some (j, want) ∧ fr.get j = some (.bool b) ∧ ((b = want ∧ yes) ∨ (b = !want ∧ no))) ∨
    ∃ j want xs, g = some (j, want) ∧ fr.get j = some (.v (.tuple xs)) ∧ no := by
  unfold vcG at h
  split at h
  · exact .inl ⟨rfl, h⟩
  · rename_i j want
    split at h
    · rename_i b hb
      obtain ⟨h1, h2⟩ := h
      refine .inr (.inl ⟨j, want, b, rfl, hb, ?_⟩)
      by_cases e : b = want
      · exact .inl ⟨e, h1 e⟩
      · have : b = !want := by cases b <;> cases want <;> simp_all
        exact .inr ⟨this, h2 this⟩
    · rename_i xs hb
      exact .inr (.inr ⟨j, want, xs, rfl, hb, h⟩)
    · exact h.elim

/-! ### What an operation looks at -/
theorem at_congr {fr fr' : Fr} {y : Y} (h : ∀ t ∈ y.looks, fr.get t = fr'.get t) : fr.at y = fr'.at y := by
  cases y with
  | t n => exact h n (by simp [Y.looks])
  | c v => rfl
theorem evs_congr {fr fr' : Fr} : ∀ {l : List Y}, (∀ t ∈ yLooks l, fr.get t = fr'.get t) → evs fr l = evs fr' l
  | [], _ => rfl
  | y :: r, h => by
    simp only [yLooks, List.flatMap_cons, List.mem_append] at h
    unfold evs
    rw [at_congr fun t ht => h t (.inl ht), evs_congr fun t ht => h t (.inr ht)]
theorem bnd_congr {fr fr' : Fr} {x : Option Y} (h : ∀ t ∈ oLooks x, fr.get t = fr'.get t) : bnd fr x = bnd fr' x := by
  cases x with
  | none => rfl
  | some y => funext d F; simp only [bnd]; rw [at_congr h]
theorem withParts_congr {fr fr' : Fr} : ∀ {l : List (Nat × Nat × Y)}, (∀ t ∈ pLooks l, fr.get t = fr'.get t) → withParts fr l = withParts fr' l
  | [], _ => rfl
  | (_, _, y) :: r, h => by
    simp only [pLooks, List.flatMap_cons, List.mem_append] at h
    funext F
    simp only [withParts]
    rw [at_congr fun t ht => h t (.inl ht), withParts_congr fun t ht => h t (.inr ht)]

theorem vcK_congr {k : AK} {fr fr' : Fr} (h : ∀ t ∈ k.looks, fr.get t = fr'.get t) (st : St) (K : AV → St → Prop) : vcK P G k fr st K = vcK P G k fr' st K := by
  have h1 : ∀ {y : Y}, (∀ t ∈ y.looks, t ∈ k.looks) → fr.at y = fr'.at y := fun hy => at_congr fun t ht => h t (hy t ht)
  cases k <;> simp only [AK.looks] at h h1 <;> simp only [vcK]
  case slice sz x lo hi mx =>
    rw [h1 fun t ht => by simp [ht]]
    unfold sliceVC
    rw [bnd_congr (x := lo) fun t ht => h t (by simp [ht]), bnd_congr (x := hi) fun t ht => h t (by simp [ht])]
    cases mx with
    | none => rfl
    | some m => simp only [h1 (y := m) fun t ht => by simp [oLooks, ht]]
  case sslice x lo hi =>
    rw [h1 fun t ht => by simp [ht], bnd_congr (x := lo) fun t ht => h t (by simp [ht]), bnd_congr (x := hi) fun t ht => h t (by simp [ht])]
  case sliceP n sz x lo hi =>
    rw [h1 fun t ht => by simp [ht]]
    unfold slicePVC
    rw [bnd_congr (x := lo) fun t ht => h t (by simp [ht]), bnd_congr (x := hi) fun t ht => h t (by simp [ht])]
  case call f l => rw [evs_congr h]
  case pcall f l => rw [evs_congr h]
  case mkfn f l => rw [evs_congr h]
  case callv x l => rw [evs_congr fun t ht => h t (by simp [ht]), h1 (y := x) fun t ht => by simp [ht]]
  case build z l => rw [withParts_congr h]
  case bsl => rw [withParts_congr h]
  case pick c a b => rw [h1 (y := c) fun t ht => by simp [ht], h1 (y := a) fun t ht => by simp [ht], h1 (y := b) fun t ht => by simp [ht]]
  case carry c a b d => rw [h1 (y := a) fun t ht => by simp [ht], h1 (y := b) fun t ht => by simp [ht], h1 (y := d) fun t ht => by simp [ht]]
  all_goals first
    | rfl
    | rw [h1 (fun t ht => ht)]
    | (rename_i x y; rw [h1 (y := x) fun t ht => by simp [ht], h1 (y := y) fun t ht => by simp [ht]])

theorem stepO_congr {o : AO} {fr fr' : Fr} (h : ∀ t ∈ o.looks, fr.get t = fr'.get t) (st : St) (K : AV → St → Prop) : stepO P G o fr st K = stepO P G o fr' st K := by
  unfold stepO
  obtain ⟨d, g, k⟩ := o
  simp only [AO.looks, List.mem_append] at h
  rw [vcK_congr (fun t ht => h t (.inr ht))]
  cases g with
  | none => rfl
  | some p => obtain ⟨j, want⟩ := p; simp only [vcG]; rw [h j (.inl (by simp))]

/-! ### Quiet operations answer one thing -/
def Det {α : Type} (F : (α → Prop) → Prop) : Prop := ∀ K, F K → ∃ x, K x ∧ ∀ K', K' x → F K'
theorem det_leaf {α : Type} (a : α) : Det (fun K => K a) := fun K h => ⟨a, h, fun _ h => h⟩
theorem det_and {α : Type} {p : Prop} {F : (α → Prop) → Prop} (h : Det F) : Det (fun K => p ∧ F K) := fun K ⟨hp, hF⟩ =>
  let ⟨x, h1, h2⟩ := h K hF
  ⟨x, h1, fun K' hk => ⟨hp, h2 K' hk⟩⟩
theorem det_false {α : Type} : Det (α := α) (fun _ => False) := fun _ h => h.elim
theorem det_av {α : Type} {o : Option AV} {F : AV → (α → Prop) → Prop} (h : ∀ v, Det (F v)) : Det (fun K => withAV o fun v => F v K) := fun K hk => by
  obtain ⟨v, rfl, hv⟩ := withAV_elim hk
  exact h v K hv
theorem det_avs {α : Type} {o : Option (List AV)} {F : List AV → (α → Prop) → Prop} (h : ∀ v, Det (F v)) : Det (fun K => withAVs o fun v => F v K) := fun K hk => by
  obtain ⟨v, rfl, hv⟩ := withAVs_elim hk
  exact h v K hv
theorem det_int {α : Type} {o : Option AV} {F : IntKind → Int → (α → Prop) → Prop} (h : ∀ k n, Det (F k n)) : Det (fun K => withInt o fun k n => F k n K) := fun K hk => by
  obtain ⟨k, n, rfl, hv⟩ := withInt_elim hk
  exact h k n K hv
theorem det_bool {α : Type} {o : Option AV} {F : Bool → (α → Prop) → Prop} (h : ∀ v, Det (F v)) : Det (fun K => withBool o fun v => F v K) := fun K hk => by
  obtain ⟨v, rfl, hv⟩ := withBool_elim hk
  exact h v K hv
theorem det_str {α : Type} {o : Option AV} {F : List UInt8 → (α → Prop) → Prop} (h : ∀ v, Det (F v)) : Det (fun K => withStr o fun v => F v K) := fun K hk => by
  obtain ⟨v, rfl, hv⟩ := withStr_elim hk
  exact h v K hv
theorem det_sl {α : Type} {o : Option AV} {F : App → Nat → List (List AV) → (α → Prop) → Prop} (h : ∀ a b c, Det (F a b c)) : Det (fun K => withSl o fun a b c => F a b c K) := fun K hk => by
  obtain ⟨a, b, c, rfl, hv⟩ := withSl_elim hk
  exact h a b c K hv
theorem det_agg {α : Type} {o : Option AV} {F : List AV → (α → Prop) → Prop} (h : ∀ v, Det (F v)) : Det (fun K => withAgg o fun v => F v K) := fun K hk => by
  obtain ⟨v, rfl, hv⟩ := withAgg_elim hk
  exact h v K hv
theorem det_obj {α : Type} {st : St} {tag b : Nat} {F : List AV → (α → Prop) → Prop} (h : ∀ v, Det (F v)) : Det (fun K => withObj st tag b fun v => F v K) := fun K hk => by
  obtain ⟨v, hf, hv⟩ := withObj_elim hk
  obtain ⟨x, h1, h2⟩ := h v K hv
  exact ⟨x, h1, fun K' hK' => by simp only [withObj, hf]; exact ⟨trivial, h2 K' hK'⟩⟩
theorem det_bnd {α : Type} {fr : Fr} {x : Option Y} {d : Int} {F : Int → (α → Prop) → Prop} (h : ∀ n, Det (F n)) : Det (fun K => bnd fr x d fun n => F n K) := by
  cases x with
  | none => exact h d
  | some y => exact det_int fun _ n => h n
theorem det_parts {α : Type} {fr : Fr} : ∀ {l : List (Nat × Nat × Y)} {F : List (Nat × AV) → (α → Prop) → Prop}, (∀ p, Det (F p)) → Det (fun K => withParts fr l fun p => F p K)
  | [], F, h => h []
  | (_, _, _) :: r, F, h => det_av fun v => det_and (det_parts (l := r) fun p => h _)

theorem det_vcK {k : AK} (hq : k.quiet = true) (fr : Fr) (st : St) : Det (α := AV) (fun K => vcK P G k fr st fun x _ => K x) := by
  cases k <;> first
    | (simp only [AK.quiet, AK.free, AK.calm, Bool.false_eq_true] at hq; done)
    | skip
  case mv x => exact det_av fun v => det_leaf v
  case pick c a b =>
    refine det_bool fun t => ?_
    cases t with
    | true => exact fun K ⟨h1, h2⟩ => let ⟨x, q1, q2⟩ := det_av (o := fr.at a) (fun v => det_leaf v) K (h1 rfl); ⟨x, q1, fun K' hK => ⟨fun _ => q2 K' hK, fun e => by cases e⟩⟩
    | false => exact fun K ⟨h1, h2⟩ => let ⟨x, q1, q2⟩ := det_av (o := fr.at b) (fun v => det_leaf v) K (h2 rfl); ⟨x, q1, fun K' hK => ⟨fun e => by (cases e), fun _ => q2 K' hK⟩⟩
  case bin op x y => exact det_int fun _ _ => det_int fun _ _ => det_and (by cases op <;> first | exact det_leaf _ | exact det_and (det_leaf _) | exact det_false)
  case shf op x y => exact det_int fun _ _ => det_int fun _ _ => by cases op <;> first | exact det_and (det_leaf _) | exact det_false
  case sbin op x y => exact det_str fun _ => det_str fun _ => by cases op <;> first | exact det_leaf _ | exact det_and (det_leaf _) | exact det_false
  case isnil neg sl x =>
    simp only [vcK]
    cases sl with
    | true => simp only [isnilVC, isnilS]; split <;> first | exact det_leaf _ | exact det_false
    | false => simp only [isnilVC, isnilP]; split <;> first | exact det_leaf _ | exact det_false
  case eqc neg n ls x y => exact det_agg fun _ => det_agg fun _ => det_and (det_leaf _)
  case eqb neg x y => exact det_bool fun _ => det_bool fun _ => det_leaf _
  case un op x => cases op <;> first | exact det_int fun _ _ => det_leaf _ | exact det_bool fun _ => det_leaf _ | exact det_false
  case cvt k x => exact det_int fun _ _ => det_leaf _
  case s2b im x => simp only [AK.quiet, AK.free] at hq; subst hq; exact det_str fun _ => det_leaf _
  case b2s x => exact det_sl fun _ _ _ => det_and (det_leaf _)
  case len x => simp only [vcK]; split <;> first | exact det_leaf _ | exact det_false
  case slen x => exact det_str fun _ => det_leaf _
  case lenc n => exact det_leaf _
  case mm mx x y => exact det_int fun _ _ => det_int fun _ _ => det_and (det_leaf _)
  case idxA sz x i => refine det_int fun _ _ => ?_; simp only [idxAVC]; split <;> first | exact det_and (det_leaf _) | exact det_false
  case idxP n sz x i => refine det_int fun _ _ => ?_; simp only [idxPVC]; split <;> first | exact det_and (det_leaf _) | exact det_false
  case idxG n sz agg x i => exact det_agg fun _ => det_int fun _ _ => det_and (det_leaf _)
  case idxS x i => exact det_str fun _ => det_int fun _ _ => det_and (det_leaf _)
  case fldA off x => simp only [vcK, fldAVC]; split <;> first | exact det_leaf _ | exact det_false
  case fld off sz agg x => exact det_agg fun _ => det_and (det_leaf _)
  case load sz agg x => simp only [vcK, loadVC]; split <;> first | exact det_and (det_leaf _) | exact det_obj fun _ => det_and (det_leaf _) | exact det_false
  case loadX F sz agg x => refine det_and ?_; simp only [loadVC]; split <;> first | exact det_and (det_leaf _) | exact det_obj fun _ => det_and (det_leaf _) | exact det_false
  case nck x => simp only [vcK, nckVC]; split <;> first | exact det_leaf _ | exact det_false
  case slice sz x lo hi mx =>
    simp only [vcK, sliceVC]
    split
    · split
      · exact det_bnd fun _ => det_bnd fun _ => det_and (det_leaf _)
      · exact det_bnd fun _ => det_bnd fun _ => det_int fun _ _ => det_and (det_leaf _)
    · split
      · exact det_bnd fun _ => det_bnd fun _ => det_and (det_leaf _)
      · exact det_false
    · exact det_false
  case sslice x lo hi => exact det_str fun _ => det_bnd fun _ => det_bnd fun _ => det_and (det_leaf _)
  case sliceP n sz x lo hi =>
    simp only [vcK, slicePVC]
    split
    · exact det_bnd fun _ => det_bnd fun _ => det_and (det_leaf _)
    · exact det_false
  case ext x i => simp only [vcK]; split <;> first | exact det_av fun _ => det_leaf _ | exact det_false
  case pcall F f xs =>
    refine det_avs fun vs K q => ?_
    obtain ⟨x, s1, s2, a, a', b, c⟩ := q.out
    exact ⟨x, c, fun K' hK => ⟨x, s1, s2, a, a', b, hK⟩⟩
  case carry sub x y c => exact det_int fun _ _ => det_int fun _ _ => det_int fun _ _ => det_and (det_leaf _)
  case box im tag sz x => simp only [AK.quiet, AK.free] at hq; subst hq; exact det_av fun _ => det_and (det_leaf _)
  case build z parts => exact det_parts fun _ => det_leaf _
  case bsl im tag len sz z parts => simp only [AK.quiet, AK.free] at hq; subst hq; exact det_parts fun _ => det_leaf _
  case mks im tag sz bytes z l c => simp only [AK.quiet, AK.free] at hq; subst hq; exact det_int fun _ _ => det_int fun _ _ => det_and (det_leaf _)
  case mkfn f caps => exact det_avs fun _ => det_leaf _

/-- A quiet operation leaves the state as it was. -/
theorem quiet_st {k : AK} (hq : k.quiet = true) (fr : Fr) (st : St) (K : AV → St → Prop) : vcK P G k fr st K = vcK P G k fr st fun x _ => K x st := by
  cases k <;> first
    | (simp only [AK.quiet, AK.free, AK.calm, Bool.false_eq_true] at hq; done)
    | rfl
    | (simp only [AK.quiet, AK.free] at hq; subst hq; rfl)
    | skip
  case pcall F f xs =>
    have e : ∀ vs, PCallGoal P G F f vs st K = PCallGoal P G F f vs st fun x _ => K x st := fun vs => propext ⟨fun q => by
        obtain ⟨x, s1, s2, a, a', b, c⟩ := q.out
        exact ⟨x, s1, s2, a, a', b, c⟩, fun q => by
        obtain ⟨x, s1, s2, a, a', b, c⟩ := q.out
        exact ⟨x, s1, s2, a, a', b, c⟩⟩
    simp only [vcK, e]
/-- .. and a free one does not look at it. -/
theorem free_st {k : AK} (hq : k.free = true) (fr : Fr) (st st' : St) (K : AV → Prop) : vcK P G k fr st (fun x _ => K x) = vcK P G k fr st' fun x _ => K x := by
  cases k <;> first
    | (simp only [AK.free, AK.calm, Bool.false_eq_true] at hq; done)
    | rfl
    | (simp only [AK.free] at hq; subst hq; rfl)
theorem free_quiet {k : AK} (h : k.free = true) : k.quiet = true := by
  cases k <;> first
    | rfl
    | exact h
    | (simp only [AK.free, AK.calm, Bool.false_eq_true] at h; done)
theorem avoid_quiet {t : Nat} {k : AK} (h : k.avoid t = true) : k.quiet = true := by
  cases k <;> first
    | rfl
    | exact h
    | (simp only [AK.avoid, AK.free, AK.calm, Bool.false_eq_true] at h; done)

/-- What the operation surely answers. -/
def YO (P : Program) (G : Nat → AV) (o : AO) (fr : Fr) (st : St) (x : AV) : Prop := ∀ K' : AV → St → Prop, K' x st → stepO P G o fr st K'

theorem stepO_det {o : AO} (hq : o.k.quiet = true) {fr : Fr} {st : St} {K : AV → St → Prop} (h : stepO P G o fr st K) : ∃ x, K x st ∧ YO P G o fr st x := by
  unfold stepO at h
  rcases vcG_elim h with ⟨hg, hy⟩ | ⟨j, want, b, hg, hb, ⟨e, hy⟩ | ⟨e, hn⟩⟩ | ⟨j, want, xs, hg, hb, hn⟩
  · rw [quiet_st hq] at hy
    obtain ⟨x, h1, h2⟩ := det_vcK hq fr st _ hy
    refine ⟨x, h1, fun K' hK' => ?_⟩
    unfold stepO
    rw [hg, quiet_st hq]
    exact h2 (fun x => K' x st) hK'
  · rw [quiet_st hq] at hy
    obtain ⟨x, h1, h2⟩ := det_vcK hq fr st _ hy
    refine ⟨x, h1, fun K' hK' => ?_⟩
    unfold stepO
    rw [hg, quiet_st hq]
    rw [vcG, hb]
    exact ⟨fun _ => h2 (fun x => K' x st) hK', fun e' => by rw [e] at e'; cases want <;> cases e'⟩
  · refine ⟨.und, hn, fun K' hK' => ?_⟩
    unfold stepO
    rw [hg]
    rw [vcG, hb]
    exact ⟨fun e' => (by rw [e] at e'; cases want <;> cases e'), fun _ => hK'⟩
  · refine ⟨.und, hn, fun K' hK' => ?_⟩
    unfold stepO
    rw [hg]
    rw [vcG, hb]
    exact hK'

/-- The same answer in another state, if the operation sees no difference. -/
theorem YO.state {o : AO} {fr : Fr} {st st' : St} {x : AV} (h : YO P G o fr st x) (hk : ∀ K : AV → Prop, vcK P G o.k fr st (fun x _ => K x) → vcK P G o.k fr st' (fun x _ => K x)) (hq : o.k.quiet = true) : YO P G o fr st' x := by
  intro K' hK'
  have h1 := h (fun y _ => K' y st') hK'
  unfold stepO at *
  refine vcG_mono (fun q => ?_) id h1
  rw [quiet_st hq]
  exact hk _ q
theorem YO.free {o : AO} {fr : Fr} {st : St} {x : AV} (h : YO P G o fr st x) (hq : o.k.free = true) (st' : St) : YO P G o fr st' x :=
  h.state (fun K q => by rwa [free_st hq fr st' st]) (free_quiet hq)

theorem allGt_cons (t : Nat) (s : Seg) (l : St) : allGt t (s :: l) = (gtSeg t s && allGt t l) := by simp [allGt]
theorem allGt_find {t : Nat} : ∀ {st : St}, allGt t st = true → findObj t st = none
  | [], _ => rfl
  | .obj t' b c :: r, h => by
    simp only [allGt_cons, Bool.and_eq_true, gtSeg, decide_eq_true_eq] at h
    simp only [findObj]
    rw [if_neg (by omega)]
    exact allGt_find h.2
  | .row _ _ _ :: r, h => by simp [allGt_cons, gtSeg] at h
theorem findObj_ins {tag t b : Nat} {z : List AV} {v : Nat × List AV} : ∀ {st : St}, findObj t st = some v → findObj t (insObj tag b z st) = some v
  | [], h => by simp [findObj] at h
  | s :: r, h => by
    rw [insObj_cons]
    split
    · rename_i hg
      by_cases e : tag = t
      · subst e; rw [allGt_find hg] at h; cases h
      · simp only [findObj, if_neg e]; exact h
    · cases s with
      | obj t' b' c =>
        by_cases e : t' = t
        · simp only [findObj, if_pos e] at h ⊢; exact h
        · simp only [findObj, if_neg e] at h ⊢; exact findObj_ins h
      | row a n s =>
        simp only [findObj] at h ⊢
        exact findObj_ins h
theorem allGt_ins {t tag b : Nat} {z : List AV} : ∀ {st : St}, allGt t (insObj tag b z st) = (decide (t < tag) && allGt t st)
  | [] => by simp [insObj_nil, allGt, gtSeg]
  | s :: r => by
    rw [insObj_cons]
    split
    · rw [allGt_cons]; rfl
    · rw [allGt_cons, allGt_cons, allGt_ins]
      cases decide (t < tag) <;> simp
theorem allGt_up {a c : Nat} {l : St} (h : a < c) (k : allGt c l = true) : allGt a l = true := by
  simp only [allGt, List.all_eq_true] at *
  intro x hx
  have := k x hx
  cases x with
  | obj t'' _ _ => simp only [gtSeg, decide_eq_true_eq] at *; omega
  | row _ _ _ => simp [gtSeg] at this
theorem gtSeg_obj (t t' b : Nat) (c : List AV) : gtSeg t (.obj t' b c) = decide (t < t') := rfl
theorem ins_comm {t t' b b' : Nat} {z z' : List AV} (h : t ≠ t') : ∀ st : St, insObj t b z (insObj t' b' z' st) = insObj t' b' z' (insObj t b z st)
  | [] => by
    simp only [insObj_cons, insObj_nil, allGt, gtSeg, List.all_cons, List.all_nil, Bool.and_true, decide_eq_true_eq]
    by_cases q : t < t'
    · rw [if_pos q, if_neg (by omega)]
    · rw [if_neg q, if_pos (by omega)]
  | s :: r => by
    have ih := ins_comm h r (b := b) (b' := b') (z := z) (z' := z')
    have hlt : t' < t ∨ t < t' := by omega
    rcases hlt with hlt | hlt
    · have up := fun l => allGt_up (l := l) hlt
      have n1 : decide (t < t') = false := by simp; omega
      have n2 : decide (t' < t) = true := by simp [hlt]
      cases h1 : allGt t (s :: r) <;> cases h2 : allGt t' (s :: r)
      · have h2' := h2
        rw [allGt_cons] at h1 h2'
        simp only [insObj_cons, insObj_nil, h2, allGt_cons, h1, allGt_ins, n1, n2, Bool.true_and, Bool.false_and, Bool.and_false, h2', Bool.false_eq_true, if_false, ih]
      · have h2' := h2
        rw [allGt_cons] at h1 h2'
        simp only [insObj_cons, insObj_nil, h2, allGt_cons, h1, allGt_ins, n1, n2, Bool.true_and, Bool.false_and, Bool.and_false, h2', Bool.false_eq_true, if_false, if_true, gtSeg_obj]
      · rw [up _ h1] at h2; cases h2
      · have h2' := h2
        have h1' := h1
        rw [allGt_cons] at h1' h2'
        simp only [insObj_cons, insObj_nil, h2, h1, allGt_cons, h1', allGt_ins, n1, n2, Bool.true_and, Bool.false_and, Bool.and_false, h2', Bool.false_eq_true, if_false, if_true, gtSeg_obj]
    · have up := fun l => allGt_up (l := l) hlt
      have n1 : decide (t' < t) = false := by simp; omega
      have n2 : decide (t < t') = true := by simp [hlt]
      cases h1 : allGt t' (s :: r) <;> cases h2 : allGt t (s :: r)
      · have h2' := h2
        rw [allGt_cons] at h1 h2'
        simp only [insObj_cons, insObj_nil, h2, allGt_cons, h1, allGt_ins, n1, n2, Bool.true_and, Bool.false_and, Bool.and_false, h2', Bool.false_eq_true, if_false, ih]
      · have h2' := h2
        rw [allGt_cons] at h1 h2'
        simp only [insObj_cons, insObj_nil, h2, allGt_cons, h1, allGt_ins, n1, n2, Bool.true_and, Bool.false_and, Bool.and_false, h2', Bool.false_eq_true, if_false, if_true, gtSeg_obj]
      · rw [up _ h1] at h2; cases h2
      · have h2' := h2
        have h1' := h1
        rw [allGt_cons] at h1' h2'
        simp only [insObj_cons, insObj_nil, h2, h1, allGt_cons, h1', allGt_ins, n1, n2, Bool.true_and, Bool.false_and, Bool.and_false, h2', Bool.false_eq_true, if_false, if_true, gtSeg_obj]

/-! ### Other states in which a quiet operation answers alike -/
theorem perm_cancel {s : Seg} {l₁ l₂ s1 s2 : St} (h : (l₁ ++ s :: l₂).Perm (s1 ++ s2)) (hn : s ∉ s1) : ∃ s2' : St, ∀ t : Seg, (l₁ ++ t :: l₂).Perm (s1 ++ t :: s2') := by
  have hm : s ∈ s2 := by
    have : s ∈ s1 ++ s2 := h.subset (by simp)
    rcases List.mem_append.1 this with q | q
    · exact absurd q hn
    · exact q
  obtain ⟨a, b, rfl⟩ := List.append_of_mem hm
  have h' : (s :: (l₁ ++ l₂)).Perm (s :: (s1 ++ (a ++ b))) := by
    refine (List.perm_middle (l₁ := l₁) (l₂ := l₂)).symm.trans (h.trans ?_)
    have e : s1 ++ (a ++ s :: b) = (s1 ++ a) ++ s :: b := by simp
    rw [e, ← List.append_assoc]
    exact List.perm_middle
  have h2 := h'.cons_inv
  refine ⟨a ++ b, fun t => ?_⟩
  exact (List.perm_middle (l₁ := l₁) (l₂ := l₂)).trans ((h2.cons t).trans (List.perm_middle (l₁ := s1) (l₂ := a ++ b)).symm)

theorem okSeg_row {F : List Nat} {st : St} (h : st.all (okSeg F) = true) (app : App) (n sz : Nat) : Seg.row app n sz ∉ st := fun q => by
  have := List.all_eq_true.1 h _ q
  simp [okSeg] at this
theorem okSeg_obj {F : List Nat} {st : St} (h : st.all (okSeg F) = true) {t : Nat} (ht : F.contains t = true) (b : Nat) (c : List AV) : Seg.obj t b c ∉ st := fun q => by
  have := List.all_eq_true.1 h _ q
  simp only [okSeg, ht] at this
  cases this

/-- What a quiet operation needs of two states: blocks are found alike, and what a call takes with it lies in both. -/
structure Alike (st st' : St) (bad : Option Nat) : Prop where
  find : ∀ t v, bad ≠ some t → findObj t st = some v → findObj t st' = some v
  perm : ∀ (F : List Nat) (s1 s2 : St), (∀ t, bad = some t → F.contains t = true) → s1.all (okSeg F) = true → st.Perm (s1 ++ s2) → ∃ s2', st'.Perm (s1 ++ s2')

theorem withObj_alike {st st' : St} {bad : Option Nat} (h : Alike st st' bad) {tag b : Nat} (hb : bad ≠ some tag) {F : List AV → Prop} (k : withObj st tag b F) : withObj st' tag b F := by
  obtain ⟨c, hf, hv⟩ := withObj_elim k
  simp only [withObj, h.find _ _ hb hf]
  exact ⟨trivial, hv⟩
theorem loadVC_alike {st st' : St} {bad : Option Nat} (h : Alike st st' bad) {sz : Nat} {agg : Bool} {x : Option AV} (hb : ∀ t b off, x = some (.optr t b off) → bad ≠ some t) {K : AV → Prop} (k : loadVC sz agg x st K) : loadVC sz agg x st' K := by
  unfold loadVC at *
  split at k
  · exact k
  · exact withObj_alike h (hb _ _ _ rfl) k
  · exact k.elim
theorem quiet_alike {k : AK} {st st' : St} {bad : Option Nat} (h : Alike st st' bad) (hq : k.quiet = true) (hb : ∀ t, bad = some t → k.avoid t = true) (fr : Fr) (K : AV → Prop) (q : vcK P G k fr st fun x _ => K x) : vcK P G k fr st' fun x _ => K x := by
  by_cases hf : k.free = true
  · rwa [free_st hf fr st' st]
  · cases k <;> first
      | exact absurd hq hf
      | skip
    case load sz agg x =>
      refine loadVC_alike h (fun t b off _ e => ?_) q
      have := hb t e
      simp [AK.avoid, AK.free] at this
    case loadX F sz agg x =>
      refine ⟨q.1, loadVC_alike h (fun t b off e1 e => ?_) q.2⟩
      have h1 := hb t e
      have h2 := q.1
      simp only [AK.avoid] at h1
      simp only [e1, offF, h1] at h2
      cases h2
    case pcall F f xs =>
      refine withAVs_mono (fun vs q => ?_) q
      obtain ⟨x, s1, s2, a, a', b, c⟩ := q.out
      obtain ⟨s2', hp⟩ := h.perm F s1 s2 hb a' a
      exact ⟨x, s1, s2', hp, a', b, c⟩

theorem alike_ins (tag b : Nat) (z : List AV) (st : St) : Alike st (insObj tag b z st) none where
  find := fun t v _ => findObj_ins
  perm := fun F s1 s2 _ _ hp => ⟨.obj tag b z :: s2, ((insObj_perm tag b z st).trans (hp.cons _)).trans (List.perm_middle (l₁ := s1) (l₂ := s2)).symm⟩
theorem findObj_row {t : Nat} {app app' : App} {n n' sz sz' : Nat} {l₂ : St} : ∀ l₁ : St, findObj t (l₁ ++ .row app n sz :: l₂) = findObj t (l₁ ++ .row app' n' sz' :: l₂)
  | [] => rfl
  | .obj t' b c :: r => by simp only [List.cons_append, findObj]; rw [findObj_row r]
  | .row _ _ _ :: r => by simp only [List.cons_append, findObj]; exact findObj_row r
theorem alike_row (l₁ l₂ : St) (app app' : App) (n n' sz sz' : Nat) : Alike (l₁ ++ .row app n sz :: l₂) (l₁ ++ .row app' n' sz' :: l₂) none where
  find := fun t v _ h => by rwa [findObj_row l₁] at h
  perm := fun F s1 s2 _ ho hp => let ⟨s2', h⟩ := perm_cancel hp (okSeg_row ho app n sz); ⟨_, h _⟩
theorem alike_push (st : St) (app : App) (n sz : Nat) : Alike st (.row app n sz :: st) none where
  find := fun t v _ h => h
  perm := fun F s1 s2 _ ho hp => ⟨.row app n sz :: s2, (hp.cons _).trans (List.perm_middle (l₁ := s1) (l₂ := s2)).symm⟩
theorem findObj_set {t tag : Nat} {c : List AV} (h : t ≠ tag) : ∀ st : St, findObj t (setObj tag c st) = findObj t st
  | [] => rfl
  | .obj t' b z :: r => by
    rw [setObj_obj]
    split
    · rename_i e; subst e; simp only [findObj, if_neg (Ne.symm h)]
    · simp only [findObj, findObj_set h r]
  | .row _ _ _ :: r => by simp only [setObj_row, findObj]; exact findObj_set h r
theorem setObj_split {tag b : Nat} {cells c : List AV} : ∀ {st : St}, findObj tag st = some (b, cells) → ∃ l₁ l₂, st = l₁ ++ .obj tag b cells :: l₂ ∧ setObj tag c st = l₁ ++ .obj tag b c :: l₂
  | [], h => by simp [findObj] at h
  | .obj t' b' z :: r, h => by
    simp only [findObj] at h
    split at h
    · rename_i e; subst e; cases h; exact ⟨[], r, rfl, by simp [setObj_obj]⟩
    · rename_i e
      obtain ⟨l1, l2, e1, e2⟩ := setObj_split (c := c) h
      exact ⟨.obj t' b' z :: l1, l2, by rw [e1]; rfl, by simp only [setObj_obj, if_neg e, e2]; rfl⟩
  | .row a n s :: r, h => by
    simp only [findObj] at h
    obtain ⟨l1, l2, e1, e2⟩ := setObj_split (c := c) h
    exact ⟨.row a n s :: l1, l2, by rw [e1]; rfl, by simp only [setObj_row, e2]; rfl⟩
theorem alike_set {tag b : Nat} {cells : List AV} {st : St} (hf : findObj tag st = some (b, cells)) (c : List AV) : Alike st (setObj tag c st) (some tag) where
  find := fun t v hb h => by
    rw [findObj_set (fun e => hb (by rw [e]))]; exact h
  perm := fun F s1 s2 hF ho hp => by
    obtain ⟨l1, l2, e1, e2⟩ := setObj_split (c := c) hf
    subst e1
    obtain ⟨s2', h⟩ := perm_cancel hp (okSeg_obj ho (hF tag rfl) b cells)
    rw [e2]
    exact ⟨_, h _⟩

/-! ### Two operations change places -/
def FEq (fr fr' : Fr) : Prop := ∀ i, fr.get i = fr'.get i
def FrInv (K : Fr → St → Prop) : Prop := ∀ fr fr' st, FEq fr fr' → K fr st → K fr' st
theorem get_put (d : Option Nat) (x : AV) (fr : Fr) (i : Nat) : (putFr d x fr).get i = if d = some i then some x else fr.get i := by
  cases d with
  | none => simp [putFr]
  | some d => simp [putFr, Fr.get]
theorem FEq.put {fr fr' : Fr} (h : FEq fr fr') (d : Option Nat) (x : AV) : FEq (putFr d x fr) (putFr d x fr') := fun i => by rw [get_put, get_put, h i]
theorem put_swap {d d' : Option Nat} {x y : AV} (h : ∀ i, d = some i → d' ≠ some i) (fr : Fr) : FEq (putFr d x (putFr d' y fr)) (putFr d' y (putFr d x fr)) := fun i => by
  simp only [get_put]
  by_cases h1 : d = some i
  · rw [if_pos h1, if_neg (h i h1), if_pos h1]
  · rw [if_neg h1, if_neg h1]
theorem vcI_inv {o : AO} {K : Fr → St → Prop} (hK : FrInv K) : FrInv (vcI P G o K) := fun fr fr' st h q => by
  unfold vcI at *
  rw [← stepO_congr (fun t _ => h t)]
  exact stepO_mono (fun x st' => hK _ _ _ (h.put _ _)) q

theorem apart_spec {x y : AO} (h : x.apart y = true) : (∀ d, x.dst = some d → d ∉ y.looks) ∧ (∀ d, x.dst = some d → y.dst ≠ some d) ∧ (∀ d, y.dst = some d → d ∉ x.looks) := by
  refine ⟨fun d hd => ?_, fun d hd => ?_, fun d hd => ?_⟩ <;> simp [AO.apart, hd] at h
  · exact h.1.1
  · exact h.1.2
  · exact h.2
theorem stepO_put {o : AO} {d : Option Nat} {x : AV} (h : ∀ i, d = some i → i ∉ o.looks) (fr : Fr) (st : St) (K : AV → St → Prop) : stepO P G o (putFr d x fr) st K = stepO P G o fr st K := by
  refine stepO_congr (fun t ht => ?_) st K
  rw [get_put, if_neg]
  intro e
  exact h t e ht
theorem YO.put {o : AO} {d : Option Nat} {y x : AV} {fr : Fr} {st : St} (h : ∀ i, d = some i → i ∉ o.looks) (k : YO P G o fr st x) : YO P G o (putFr d y fr) st x := fun K' hK' => by
  rw [stepO_put h]; exact k K' hK'

/-- x is quiet, and whatever y makes of the state, x sees no difference. -/
theorem comm_quiet {x y : AO} (ha : x.apart y = true) (hq : x.k.quiet = true) {K : Fr → St → Prop} (hK : FrInv K) {fr : Fr} {st : St}
    (hs : ∀ (F : AV → St → Prop), stepO P G y fr st F → stepO P G y fr st fun z st' => F z st' ∧ ∀ v, YO P G x fr st v → YO P G x fr st' v)
    (h : vcI P G x (vcI P G y K) fr st) : vcI P G y (vcI P G x K) fr st := by
  obtain ⟨a1, a2, a3⟩ := apart_spec ha
  obtain ⟨v, h1, h2⟩ := stepO_det hq h
  have h1' : stepO P G y fr st fun z st' => K (putFr y.dst z (putFr x.dst v fr)) st' := by
    have := h1
    unfold vcI at this
    rwa [stepO_put a1] at this
  refine stepO_mono (fun z st' hz => ?_) (hs _ h1')
  exact (hz.2 v h2).put a3 _ (hK _ _ _ (put_swap (fun i e => fun e2 => a2 i e2 e) fr) hz.1)

theorem ins_of_app {sz bytes : Nat} {app : App} {els news : List (List AV)} {tag b : Nat} {z : List AV} {st : St} {K : AV → St → Prop} (q : AppGoal sz bytes app els news st fun x st' => K x (insObj tag b z st')) : AppGoal sz bytes app els news (insObj tag b z st) K := by
  obtain ⟨a, e, c⟩ := q.out
  have pre : ∀ (l₁ l₂ : St) (ap : App) (n s : Nat), insObj tag b z (l₁ ++ .row ap n s :: l₂) = l₁ ++ .row ap n s :: insObj tag b z l₂ := by
    intro l₁ l₂ ap n s
    induction l₁ with
    | nil => show insObj tag b z (.row ap n s :: l₂) = _; simp [insObj_cons, allGt_cons, gtSeg]
    | cons h t ih =>
      have : allGt tag (h :: (t ++ .row ap n s :: l₂)) = false := by simp [allGt, gtSeg]
      show insObj tag b z (h :: (t ++ .row ap n s :: l₂)) = _
      rw [insObj_cons, this, if_neg (by simp), ih]; rfl
  refine ⟨a, e, ?_⟩
  rcases c with ⟨c1, c2⟩ | ⟨c1, l1, l2, c2, c3⟩
  · refine .inl ⟨c1, fun b' cap => ?_⟩
    have := c2 b' cap
    rwa [show insObj tag b z (Seg.row (.tok b' cap) (els.length + news.length) sz :: st) = _ from pre [] st _ _ _] at this
  · refine .inr ⟨c1, l1, insObj tag b z l2, by rw [c2]; exact pre _ _ _ _ _, fun b' cap => ?_⟩
    have := c3 b' cap
    rwa [pre] at this
theorem ins_of_appVC {sz bytes : Nat} {x y : Option AV} {tag b : Nat} {z : List AV} {st : St} {K : AV → St → Prop} (q : appVC sz bytes x y st fun x st' => K x (insObj tag b z st')) : appVC sz bytes x y (insObj tag b z st) K := by
  unfold appVC at *
  split at q
  · obtain ⟨q1, q⟩ := q
    refine ⟨q1, ?_⟩
    split at q
    · exact ⟨q.1, ins_of_app q.2⟩
    · exact ⟨q.1, ins_of_app q.2⟩
    · exact withObj_alike (alike_ins tag b z st) (by simp) (withObj_mono (fun c ⟨a, b⟩ => ⟨a, ins_of_app b⟩) q)
    · exact q.elim
  · exact q.elim

theorem app_alike {sz bytes : Nat} {app : App} {els news : List (List AV)} {st : St} {K : AV → St → Prop} (q : AppGoal sz bytes app els news st K) : AppGoal sz bytes app els news st fun x st' => K x st' ∧ (st' = st ∨ Alike st st' none) := by
  obtain ⟨a, e, c⟩ := q.out
  refine ⟨a, fun h => ⟨e h, .inl rfl⟩, ?_⟩
  rcases c with ⟨c1, c2⟩ | ⟨c1, l1, l2, c2, c3⟩
  · exact .inl ⟨c1, fun b cap => ⟨c2 b cap, .inr (alike_push _ _ _ _)⟩⟩
  · exact .inr ⟨c1, l1, l2, c2, fun b cap => ⟨c3 b cap, .inr (by rw [c2]; exact alike_row _ _ _ _ _ _ _ _)⟩⟩
theorem appVC_alike {sz bytes : Nat} {x y : Option AV} {st : St} {K : AV → St → Prop} (q : appVC sz bytes x y st K) : appVC sz bytes x y st fun x st' => K x st' ∧ (st' = st ∨ Alike st st' none) := by
  unfold appVC at *
  split at q
  · obtain ⟨q1, q⟩ := q
    refine ⟨q1, ?_⟩
    split at q
    · exact ⟨q.1, app_alike q.2⟩
    · exact ⟨q.1, app_alike q.2⟩
    · exact withObj_mono (fun c ⟨a, b⟩ => ⟨a, app_alike b⟩) q
    · exact q.elim
  · exact q.elim

theorem YO.alike {o : AO} {fr : Fr} {st st' : St} {bad : Option Nat} {x : AV} (h : YO P G o fr st x) (ha : Alike st st' bad) (hq : o.k.quiet = true) (hb : ∀ t, bad = some t → o.k.avoid t = true) : YO P G o fr st' x :=
  h.state (fun K q => quiet_alike ha hq hb fr K q) hq

theorem stepO_at {o : AO} {k : AK} (hg : o.g = none) (hk : o.k = k) (fr : Fr) (st : St) (K : AV → St → Prop) : stepO P G o fr st K = vcK P G k fr st K := by
  unfold stepO; rw [hg, hk]; rfl

theorem comm_ok {x y : AO} (h : x.comm y = true) {K : Fr → St → Prop} (hK : FrInv K) {fr : Fr} {st : St} (hv : vcI P G x (vcI P G y K) fr st) : vcI P G y (vcI P G x K) fr st := by
  unfold AO.comm at h
  rw [Bool.and_eq_true] at h
  obtain ⟨ha, h⟩ := h
  by_cases hfree : x.k.free = true
  · exact comm_quiet ha (free_quiet hfree) hK (fun F hF => stepO_mono (fun z st' hz => ⟨hz, fun v hv => hv.free hfree st'⟩) hF) hv
  · by_cases hqq : (x.k.quiet && y.k.quiet) = true
    · rw [Bool.and_eq_true] at hqq
      refine comm_quiet ha hqq.1 hK (fun F hF => ?_) hv
      obtain ⟨z, h1, h2⟩ := stepO_det hqq.2 hF
      exact h2 _ ⟨h1, fun v hv => hv⟩
    · simp only [Bool.not_eq_true] at hfree hqq
      rw [hfree, hqq, Bool.false_or, Bool.false_or] at h
      split at h
      · rename_i t z hy
        rw [Bool.and_eq_true, Bool.or_eq_true] at h
        obtain ⟨hg, h⟩ := h
        have hg' : y.g = none := by simpa using hg
        by_cases hxq : x.k.quiet = true
        · refine comm_quiet ha hxq hK (fun F hF => ?_) hv
          rw [stepO_at hg' hy] at hF ⊢
          exact fun b => ⟨hF b, fun v hv => hv.alike (alike_ins t b z st) hxq (by simp)⟩
        · rcases h with h | h
          · exact absurd h hxq
          · rw [Bool.and_eq_true] at h
            obtain ⟨hgx, h⟩ := h
            have hgx' : x.g = none := by simpa using hgx
            obtain ⟨a1, a2, a3⟩ := apart_spec ha
            split at h
            · rename_i t' z' hx
              have hne : t ≠ t' := by simpa using h
              unfold vcI at hv ⊢
              rw [stepO_at hgx' hx] at hv
              rw [stepO_at hg' hy]
              intro b
              show stepO P G x _ _ _
              rw [stepO_at hgx' hx]
              intro b'
              have q : stepO P G y _ _ _ := hv b'
              rw [stepO_at hg' hy] at q
              have q2 := q b
              rw [ins_comm hne] at q2
              exact hK _ _ _ (put_swap (fun i e e2 => a2 i e2 e) fr) q2
            · rename_i sz bytes xa xb hx
              unfold vcI at hv ⊢
              have hv2 : appVC sz bytes (fr.at xa) (fr.at xb) st fun v st' => ∀ b, K (putFr y.dst (.optr t b 0) (putFr x.dst v fr)) (insObj t b z st') := by
                have := hv
                rw [stepO_at hgx' hx] at this
                refine appVC_mono (fun v st' q => ?_) this
                have q' : stepO P G y _ _ _ := q
                rw [stepO_at hg' hy] at q'
                exact q'
              rw [stepO_at hg' hy]
              intro b
              show stepO P G x _ _ _
              rw [stepO_at hgx' hx]
              have hat : ∀ yy : Y, (∀ i ∈ yy.looks, i ∈ x.looks) → (putFr y.dst (.optr t b 0) fr).at yy = fr.at yy := fun yy hyy => at_congr fun i hi => by
                rw [get_put, if_neg]
                intro e
                exact a3 i e (hyy i hi)
              have hl : ∀ i, (i ∈ xa.looks ∨ i ∈ xb.looks) → i ∈ x.looks := fun i hi => by simp only [AO.looks, hx, AK.looks, List.mem_append]; exact .inr hi
              show appVC sz bytes ((putFr y.dst (.optr t b 0) fr).at xa) ((putFr y.dst (.optr t b 0) fr).at xb) (insObj t b z st) _
              rw [hat xa fun i hi => hl i (.inl hi), hat xb fun i hi => hl i (.inr hi)]
              refine ins_of_appVC (appVC_mono (fun v st' q => ?_) hv2)
              exact hK _ _ _ (put_swap (fun i e e2 => a2 i e2 e) fr) (q b)
            · cases h
      · rename_i sz bytes xa xb hy
        rw [Bool.and_eq_true] at h
        have hg' : y.g = none := by simpa using h.1
        refine comm_quiet ha h.2 hK (fun F hF => ?_) hv
        rw [stepO_at hg' hy] at hF ⊢
        refine appVC_mono (fun v st' q => ⟨q.1, fun u hu => ?_⟩) (appVC_alike hF)
        rcases q.2 with rfl | q2
        · exact hu
        · exact hu.alike q2 h.2 (by simp)
      · rename_i t sz xa xb hy
        rw [Bool.and_eq_true] at h
        have hg' : y.g = none := by simpa using h.1
        refine comm_quiet ha (avoid_quiet h.2) hK (fun F hF => ?_) hv
        rw [stepO_at hg' hy] at hF ⊢
        refine ⟨hF.1, ?_⟩
        have h1 := hF.1
        have h2 := hF.2
        unfold storeVC at h2 ⊢
        split at h2
        · rename_i tag b off e
          simp only [e, onT, beq_iff_eq] at h1
          refine withAV_mono (fun v q => ?_) h2
          obtain ⟨cells, hfo, q1, q2⟩ := withObj_elim q
          simp only [withObj, hfo]
          refine ⟨trivial, q1, q2, fun u hu => hu.alike (alike_set hfo _) (avoid_quiet h.2) fun t'' e'' => ?_⟩
          cases e''
          rw [h1]; exact h.2
        · exact h2.elim
      · cases h
end Go.Eng
