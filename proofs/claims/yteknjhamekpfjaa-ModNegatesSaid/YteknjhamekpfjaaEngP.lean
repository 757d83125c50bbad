/- The engine, part P: how a prover meets its goals. -/
import Derived.Test.YteknjhamekpfjaaEngN
import Derived.Laws.BitsLemmas
import Derived.Laws.Bits64
import Derived.KernelRfl
set_option linter.unusedVariables false
set_option linter.unusedSimpArgs false
namespace Go.Eng
open Go.RowKit

variable {P : Program} {G : Nat → AV}

/-- Bytes. -/
abbrev bs (app : App) (l : List UInt8) : AV := .sl app 1 (l.map b8)
/-- A byte. -/
abbrev u8 (c : UInt8) : AV := .int .u8 c.toNat

theorem CallGoal.pure {f : FuncId} {args : List AV} {x : AV} {st : St} {K : AV → St → Prop} (h : ACall P G f args (fun r st' => r = x ∧ st' = []) []) (k : K x st) : CallGoal P G f args st K :=
  ⟨_, [], st, .refl _, h, fun r st' ⟨e1, e2⟩ => by subst e1 e2; exact k⟩
theorem PCallGoal.pure {F : List Nat} {f : FuncId} {args : List AV} {x : AV} {st : St} {K : AV → St → Prop} (h : ACall P G f args (fun r st' => r = x ∧ st' = []) []) (k : K x st) : PCallGoal P G F f args st K :=
  ⟨x, [], st, .refl _, rfl, h, k⟩
theorem CallGoal.with {f : FuncId} {args : List AV} {R : AV → St → Prop} {st st₁ st₂ : St} {K : AV → St → Prop} (hp : st.Perm (st₁ ++ st₂)) (h : ACall P G f args R st₁) (k : ∀ r st', R r st' → K r (st' ++ st₂)) : CallGoal P G f args st K :=
  ⟨R, st₁, st₂, hp, h, k⟩
theorem CallGoal.any {f : FuncId} {args : List AV} {R : AV → Prop} {st : St} {K : AV → St → Prop} (h : ACall P G f args (fun r st' => R r ∧ st' = []) []) (k : ∀ r, R r → K r st) : CallGoal P G f args st K :=
  ⟨_, [], st, .refl _, h, fun r st' ⟨e1, e2⟩ => by subst e2; exact k r e1⟩

theorem St.le_refl (st : St) : St.le st st := ⟨st, .refl _, .refl _⟩
theorem St.le_nil (st : St) : St.le [] st := ⟨st, .refl _, List.nil_sublist _⟩
theorem Frz.keep {fr fr' : Fr} {st : St} (h : Fr.sub fr' fr) : Frz fr st fr' st := .done (Fr.sub_get h) (St.le_refl _)
theorem Frz.drop {fr fr' : Fr} {st : St} (h : Fr.sub fr' fr) : Frz fr st fr' [] := .done (Fr.sub_get h) (St.le_nil _)

theorem RetGoal.now {ts : List RV} {R : AV → St → Prop} {fr : Fr} {st : St} (h : retVC ts fr st fun r => R r st) : RetGoal ts R fr st :=
  ⟨fr, st, .refl _ _, retVC_mono (fun r q => ⟨st, St.le_refl _, q⟩) h⟩
theorem RetGoal.drop {ts : List RV} {R : AV → St → Prop} {fr : Fr} {st : St} (h : retVC ts fr st fun r => R r []) : RetGoal ts R fr st :=
  ⟨fr, st, .refl _ _, retVC_mono (fun r q => ⟨[], St.le_nil _, q⟩) h⟩
/-- First saying less. -/
theorem RetGoal.weak {ts : List RV} {R : AV → St → Prop} {fr : Fr} {st : St} (fr1 : Fr) (h1 : ∀ p ∈ fr1, ∃ x, fr.get p.1 = some x ∧ Wk x p.2) (h : retVC ts fr1 st fun r => R r []) : RetGoal ts R fr st :=
  ⟨fr1, st, .weak (fun i x' hi => h1 _ (get_mem hi)) (.refl _ _), retVC_mono (fun r q => ⟨[], St.le_nil _, q⟩) h⟩
/-- A slice that nobody will append to. -/
theorem RetGoal.sl {n : Nat} {R : AV → St → Prop} {fr : Fr} {st : St} {app : App} {sz : Nat} {els : List (List AV)} (h : fr.get n = some (.sl app sz els)) (hn : app ≠ .nil) (hR : R (.sl .no sz els) []) : RetGoal [.t n] R fr st :=
  RetGoal.weak [(n, .sl .no sz els)] (fun p hp => by simp at hp; subst hp; exact ⟨_, h, .slno _ _ _ hn⟩) (by simp [retVC, rvVC, Fr.get, withAV]; exact hR)

theorem IdxGoal.b8 {l : List UInt8} {i : Int} {K : List AV → Prop} {c : UInt8} (h0 : 0 ≤ i) (h : l[i.toNat]? = some c) (k : K (Eng.b8 c)) : IdxGoal (l.map Eng.b8) i K :=
  ⟨h0, _, by rw [List.getElem?_map, h]; rfl, k⟩
theorem IdxGoal.b8n {l : List UInt8} {i : Nat} {K : List AV → Prop} {c : UInt8} (h : l[i]? = some c) (k : K (Eng.b8 c)) : IdxGoal (l.map Eng.b8) (i : Int) K :=
  .b8 (by omega) (by simpa using h) k
theorem IdxGoal.at {els : List (List AV)} {i : Int} {K : List AV → Prop} {c : List AV} (h0 : 0 ≤ i) (h : els[i.toNat]? = some c) (k : K c) : IdxGoal els i K := ⟨h0, _, h, k⟩
theorem SliceGoal.b8 {l : List UInt8} {lo hi : Int} {K : List (List AV) → Prop} (n m : Nat) (h1 : lo = n) (h2 : hi = m) (h3 : n ≤ m) (h4 : m ≤ l.length) (k : K (((l.drop n).take (m - n)).map Eng.b8)) : SliceGoal (l.map Eng.b8) lo hi K :=
  ⟨n, m, _, h1, h2, h3, by simpa using h4, rfl, by rwa [← List.map_drop, ← List.map_take]⟩
theorem SliceGoal.b8end {l : List UInt8} {lo hi : Int} {K : List (List AV) → Prop} (n : Nat) (h1 : lo = n) (h2 : hi = l.length) (h3 : n ≤ l.length) (k : K ((l.drop n).map Eng.b8)) : SliceGoal (l.map Eng.b8) lo hi K :=
  .b8 n l.length h1 h2 h3 (Nat.le_refl _) (by rwa [List.take_of_length_le (by simp)])
theorem SliceGoal.of {els : List (List AV)} {lo hi : Int} {K : List (List AV) → Prop} (n m : Nat) (h1 : lo = n) (h2 : hi = m) (h3 : n ≤ m) (h4 : m ≤ els.length) (k : K ((els.drop n).take (m - n))) : SliceGoal els lo hi K :=
  ⟨n, m, _, h1, h2, h3, h4, rfl, k⟩
theorem CarryGoal.add {a b c : Int} {K : AV → Prop} (ha : 0 ≤ a ∧ a < 18446744073709551616) (hb : 0 ≤ b ∧ b < 18446744073709551616) (hc : 0 ≤ c ∧ c ≤ 1)
    (k : ∀ x d : Int, (0 ≤ x ∧ x < 18446744073709551616) → (0 ≤ d ∧ d ≤ 1) → a + b + c = x + 18446744073709551616 * d → K (.tup [.int .u64 x, .int .u64 d])) : CarryGoal false a b c K :=
  ⟨⟨ha.1, hb.1, hc.1, hc.2, ha.2, hb.2⟩, k _ _ (by omega) (by omega) (by omega)⟩
theorem CarryGoal.sub {a b c : Int} {K : AV → Prop} (ha : 0 ≤ a ∧ a < 18446744073709551616) (hb : 0 ≤ b ∧ b < 18446744073709551616) (hc : 0 ≤ c ∧ c ≤ 1)
    (k : ∀ x d : Int, (0 ≤ x ∧ x < 18446744073709551616) → (0 ≤ d ∧ d ≤ 1) → a - b - c = x - 18446744073709551616 * d → K (.tup [.int .u64 x, .int .u64 d])) : CarryGoal true a b c K :=
  ⟨⟨ha.1, hb.1, hc.1, hc.2, ha.2, hb.2⟩, k _ _ (by omega) (by split <;> omega) (by split <;> omega)⟩
theorem EqGoal.of {neg : Bool} {n : Nat} {a b : List AV} {ls : List (Nat × Leaf)} {K : Bool → Prop} (t : Bool) (h : (n ≤ a.length ∧ n ≤ b.length ∧ flatAt a b ls = true) ∧ eqAt a b ls = t) (k : K (if neg then !t else t)) : EqGoal neg n a b ls K := ⟨t, h.1, h.2, k⟩
theorem StrGoal.b8 {l : List UInt8} {K : List UInt8 → Prop} (k : K l) : StrGoal (l.map Eng.b8) K := ⟨l, rfl, k⟩

theorem AppGoal.fresh {sz bytes : Nat} {app : App} {els news : List (List AV)} {st : St} {K : AV → St → Prop} (h : app = .nil ∨ app = .full) (h1 : (els.length + news.length) * bytes ≤ 140737488355328) (h2 : els.length + news.length ≤ 9223372036854775807)
    (k0 : news = [] → K (.sl app sz els) st) (k : ∀ b cap, K (.sl (.tok b cap) sz (els ++ news)) (.row (.tok b cap) (els.length + news.length) sz :: st)) : AppGoal sz bytes app els news st K :=
  ⟨⟨h1, h2⟩, k0, .inl ⟨h, k⟩⟩
theorem AppGoal.row {sz bytes : Nat} {app : App} {els news : List (List AV)} {n : Nat} {st : St} {K : AV → St → Prop} (h : app ≠ .no) (hn : n = els.length) (h1 : (els.length + news.length) * bytes ≤ 140737488355328) (h2 : els.length + news.length ≤ 9223372036854775807)
    (k0 : news = [] → K (.sl app sz els) (.row app n sz :: st)) (k : ∀ b cap, K (.sl (.tok b cap) sz (els ++ news)) (.row (.tok b cap) (els.length + news.length) sz :: st)) : AppGoal sz bytes app els news (.row app n sz :: st) K := by
  subst hn
  exact ⟨⟨h1, h2⟩, k0, .inr ⟨h, [], st, rfl, k⟩⟩

theorem ifB_le {a b : Nat} {K : Prop} (h : a ≤ b) (k : K) : ifB (Nat.ble a b) K := ifB_mk (Nat.ble_eq_true_of_le h) k
theorem inB_true {i : Int} {n : Nat} (h0 : 0 ≤ i) (h : i < n) : inB i n = true := by
  cases i with
  | ofNat k => exact Nat.ble_eq_true_of_le (by simp at h; omega)
  | negSucc k => omega

theorem b8_wrap (n : Nat) : [AV.int .u8 (IntKind.u8.wrap (n : Int))] = b8 (UInt8.ofNat n) := by
  rw [IntKind.wrap_u8]
  simp only [b8, UInt8.toNat_ofNat']
  rfl
theorem App.cut_ne {app : App} (h : app ≠ .nil) (o : Bool) : app.cut o ≠ .nil := by
  cases app <;> cases o <;> simp [App.cut] at *
theorem wr64 {n : Int} (h0 : -9223372036854775808 ≤ n) (h1 : n ≤ 9223372036854775807) : IntKind.i64.wrap n = n := by rw [IntKind.wrap_i64]; omega
theorem wru8 (c : UInt8) : IntKind.u8.wrap (c.toNat : Int) = c.toNat := by
  have := c.toNat_lt; rw [IntKind.wrap_u8]; omega

/-! ### Monotone, and loops walked round by round -/
theorem bcase_mono {b : Bool} {y y' n n' : Prop} (h : y → y') (k : n → n') (q : bcase b y n) : bcase b y' n' := by
  cases b
  · exact k q
  · exact h q
theorem ifB_mono {b : Bool} {X X' : Prop} (h : X → X') (q : ifB b X) : ifB b X' := by
  cases b
  · exact q.elim
  · exact h q
theorem binVP_mono {op : BinOp} {k : IntKind} {a b : Int} {F F' : AV → Prop} (h : ∀ v, F v → F' v) (q : binVP op k a b F) : binVP op k a b F' := by
  unfold binVP at *
  split at q
  · exact h _ q
  · exact h _ q
  · exact h _ q
  · exact h _ q
  · cases e : nzB b with
    | true => rw [e] at q; exact h _ q
    | false => rw [e] at q; exact q.elim
  · cases e : nzB b with
    | true => rw [e] at q; exact h _ q
    | false => rw [e] at q; exact q.elim
  · exact binVC_mono h q
theorem wParts_mono {fr : Fr} : ∀ {l : List (Nat × Nat × Y)} {F F' : List (Nat × AV) → Prop}, (∀ p, F p → F' p) → wParts fr l F → wParts fr l F'
  | [], _, _, h, k => h _ k
  | (_, _, _) :: r, F, F', h, k => withAV_mono (fun v => ifB_mono fun k => wParts_mono (fun p => h _) k) k
theorem vcP_mono {k : AK} {fr : Fr} {st : St} {K K' : AV → St → Prop} (h : ∀ x st', K x st' → K' x st') (q : vcP P G k fr st K) : vcP P G k fr st K' := by
  unfold vcP at *
  split at q
  · exact withBool_mono (fun t q => bcase_mono (withAV_mono fun v => h v st) (withAV_mono fun v => h v st) q) q
  · exact withInt_mono (fun _ _ => withInt_mono fun _ _ => ifB_mono (binVP_mono fun v => h v st)) q
  · refine withInt_mono (fun _ _ => withInt_mono fun _ _ q => ?_) q
    unfold shfVP at *
    split at q <;> first | exact ifB_mono (h _ _) q | exact q
  · exact withInt_mono (fun _ _ => withInt_mono fun _ _ => ifB_mono (h _ _)) q
  · exact withSl_mono (fun _ _ _ => ifB_mono fun q => let ⟨l, e, k⟩ := q.out; ⟨l, e, h _ _ k⟩) q
  · refine withInt_mono (fun _ i q => ?_) q
    split at q
    · exact ifB_mono (fun q => let ⟨h0, c, e, k⟩ := q.out; ⟨h0, c, e, h _ _ k⟩) q
    · exact ifB_mono (h _ _) q
    · exact q
  · refine withInt_mono (fun _ i q => ?_) q
    split at q
    · exact ifB_mono (h _ _) q
    · exact ifB_mono (h _ _) q
    · exact q
  · exact withAgg_mono (fun _ => withInt_mono fun _ _ => ifB_mono (h _ _)) q
  · split at q
    · exact ifB_mono (h _ _) q
    · exact withObj_mono (fun c => ifB_mono (h _ _)) q
    · exact q
  · split at q
    · exact withAV_mono (fun v => withObj_mono fun c => ifB_mono (h _ _)) q
    · exact q
  · split at q
    · exact bnd_mono (fun l => bnd_mono fun hh => ifB_mono fun q => let ⟨n, m, e, h1, h2, h3, h4, h5, k⟩ := q.out; ⟨n, m, e, h1, h2, h3, h4, h5, h _ _ k⟩) q
    · exact bnd_mono (fun l => bnd_mono fun hh ⟨a, b⟩ => ⟨a, h _ _ b⟩) q
    · exact q
  · split at q
    · refine ifB_mono (fun q => ?_) q
      split at q
      · exact ifB_mono (fun q => q.mono h) q
      · exact ifB_mono (fun q => q.mono h) q
      · exact withObj_mono (fun c => ifB_mono fun q => q.mono h) q
      · exact q
    · exact q
  · exact withAV_mono (fun v => ifB_mono (h _ _)) q
  · exact withAV_mono (fun v => ifB_mono fun q b => h _ _ (q b)) q
  · exact wParts_mono (fun _ => h _ _) q
  · exact wParts_mono (fun _ => h _ _) q
  · exact wParts_mono (fun _ q b => h _ _ (q b)) q
  · exact withInt_mono (fun _ _ => withInt_mono fun _ _ => withInt_mono fun _ _ => ifB_mono fun q => ⟨q.out.1, h _ _ q.out.2⟩) q
  · exact withAgg_mono (fun _ => withAgg_mono fun _ q => let ⟨t, h1, h2, h3⟩ := q.out; ⟨t, h1, h2, h _ _ h3⟩) q
  · exact vcK_mono h q
theorem vcH_mono {g : Option (Nat × Bool)} {fr : Fr} {y y' n n' : Fr → Prop} (h : ∀ fr, y fr → y' fr) (k : ∀ fr, n fr → n' fr) (q : vcH g fr y n) : vcH g fr y' n' := by
  unfold vcH at *
  split at q
  · exact h _ q
  · split at q
    · exact bcase_mono (h _) (k _) q
    · exact k _ q
    · exact q
  · split at q
    · exact bcase_mono (k _) (h _) q
    · exact k _ q
    · exact q
theorem ucO_mono : ∀ {os : List AO} {fr : Fr} {st : St} {K K' : Fr → St → Prop}, (∀ fr st, K fr st → K' fr st) → ucO P G os fr st K → ucO P G os fr st K'
  | [], _, _, _, _, h, q => h _ _ q
  | o :: os, fr, st, K, K', h, q => by
    rw [ucO_cons] at *
    exact vcH_mono (fun fr => vcP_mono fun x st' => ucO_mono h) (fun fr => ucO_mono h) q
theorem vc_mono : ∀ (c : C) {Q Q' : AQ} {fr : Fr} {st : St}, (∀ e fr st, Q e fr st → Q' e fr st) → vc P G c Q fr st → vc P G c Q' fr st := by
  intro c
  induction c with
  | skip => exact fun h q => h _ _ _ q
  | reg ops => exact fun h q => ucO_mono (h _) q
  | seq a b iha ihb =>
    intro Q Q' fr st h q
    refine iha (fun e fr st k => ?_) q
    cases e with
    | normal => exact ihb h k
    | _ => exact h _ _ _ k
  | cond c a b iha ihb => exact fun h q => withBool_mono (fun t => bcase_mono (iha h) (ihb h)) q
  | block id b ih =>
    intro Q Q' fr st h q
    refine ih (fun e fr st k => ?_) q
    cases e with
    | exit id' =>
      simp only [AQ.inBlock] at k ⊢
      split at k
      · rename_i e; rw [if_pos e]; exact h _ _ _ k
      · rename_i e; rw [if_neg e]; exact h _ _ _ k
    | _ => exact h _ _ _ k
  | loop b ih =>
    intro Q Q' fr st h q
    obtain ⟨I, n, h0, hr⟩ := LoopGoal.out q
    refine ⟨I, n, h0, fun n fr st hI => ih (fun e fr st k => ?_) (hr n fr st hI)⟩
    cases e with
    | normal => exact k
    | _ => exact h _ _ _ k
  | frz =>
    intro Q Q' fr st h q
    obtain ⟨fr', st', h1, h2⟩ := FrzGoal.out q
    exact ⟨fr', st', h1, h _ _ _ h2⟩
  | exit id => exact fun h q => h _ _ _ q
  | ret => exact fun h q => h _ _ _ q

noncomputable def LoopN (body : AQ → Fr → St → Prop) (Q : AQ) (n : Nat) : Fr → St → Prop := Nat.rec (motive := fun _ => Fr → St → Prop) (fun _ _ => False) (fun _ ih fr st => body (AQ.then ih Q) fr st) n
/-- A loop of at most so many rounds, round by round. -/
theorem LoopGoal.rounds (P : Program) (G : Nat → AV) {b : C} {Q : AQ} {fr : Fr} {st : St} (n : Nat) (h : LoopN (vc P G b) Q n fr st) : LoopGoal b (vc P G b) Q fr st := by
  refine ⟨LoopN (vc P G b) Q, n, ⟨fr, st, .refl _ _, h⟩, fun n fr st hI => ?_⟩
  cases n with
  | zero => exact hI.elim
  | succ n =>
    refine vc_mono b (fun e fr st k => ?_) (show vc P G b (AQ.then (LoopN (vc P G b) Q n) Q) fr st from hI)
    cases e with
    | normal => exact ⟨n, Nat.lt_succ_self n, fr, st, .refl _ _, k⟩
    | _ => exact k
/-- A loop by an invariant. -/
theorem LoopGoal.inv {b : C} {body : AQ → Fr → St → Prop} {Q : AQ} {fr fr' : Fr} {st st' : St} (I : Nat → Fr → St → Prop) (n : Nat) (hz : Frz fr st fr' st') (h0 : I n fr' st') (h : ∀ n fr st, I n fr st → body (AQ.then (fun fr' st' => ∃ m, m < n ∧ ∃ fr'' st'', Frz fr' st' fr'' st'' ∧ I m fr'' st'') Q) fr st) : LoopGoal b body Q fr st :=
  ⟨I, n, ⟨fr', st', hz, h0⟩, h⟩
end Go.Eng
