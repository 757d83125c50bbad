/- The engine, part S: lending a block of the call's own to a function that only looks; arrays of numbers. -/
import Derived.Test.YteknjhamekpfjaaEngR
import Derived.Test.YteknjhamekpfjaaNumA
set_option linter.unusedVariables false
set_option linter.unusedSimpArgs false
namespace Go.Eng
open Go.RowKit Go.Num

/-- Values that lead nowhere. -/
inductive Plain : AV → Prop
  | any : Plain .any
  | v (x) : Plain (.v x)
  | str (l) : Plain (.str l)
  | agg (l : List AV) (h : ∀ x ∈ l, Plain x) : Plain (.agg l)
  | tup (l : List AV) (h : ∀ x ∈ l, Plain x) : Plain (.tup l)
theorem VR.plain {w : World} {κ : Im} {x : AV} (hp : Plain x) : ∀ {c : Value}, VR w κ x c → ∀ {w' κ'}, VR w' κ' x c := by
  induction hp with
  | any => exact fun _ _ _ => .any _
  | v x => exact fun h _ _ => by rw [h.v_inv]; exact .v _
  | str l => exact fun h _ _ => by rw [h.str_inv]; exact .str _
  | agg l hl ih =>
    intro c h w' κ'
    cases h with
    | agg _ cs hl h1 hv => exact .agg _ cs hl h1 fun j x c hx hc => ih x (List.mem_of_getElem? hx) (hv j x c hx hc)
  | tup l hl ih =>
    intro c h w' κ'
    cases h with
    | tup _ cs hl hv => exact .tup _ cs hl fun j x c hx hc => ih x (List.mem_of_getElem? hx) (hv j x c hx hc)

/-- A function that only looks at a block, and answers with what leads nowhere, may be lent a block of the call's own. -/
theorem ACall.lend {P : Program} {G : Nat → AV} {f : FuncId} {args args' : List AV} {x : AV} {tag b sz : Nat} {cells : List AV} (hl : args.length = args'.length) (hz : ∀ (j : Nat) y y', args[j]? = some y → args'[j]? = some y' → Fz tag b sz cells y y') (hp : Plain x)
    (h : ACall P G f args' (fun r st' => r = x ∧ st' = []) []) : ACall P G f args (fun r st' => r = x ∧ st' = [.obj tag b cells]) [.obj tag b cells] := by
  intro w κ cargs hsz hv hs
  obtain ⟨c, hrow, hcs, hone, hnk, hvr⟩ := hs.seg (.obj tag b cells) (by simp)
  have hext : Ext w κ w (addIm κ b cells.length) := ⟨fun _ _ q => .inl q, fun _ _ _ => rfl⟩
  refine (h w (addIm κ b cells.length) cargs (hsz.trans hl) (fun j y' cv hy hc => ?_) ⟨fun g => (hs.glob g).mono hext, by simp, by simp [own], fun b' o q => ?_⟩).mono ?_
  · have hj : j < args.length := by rw [hl]; exact (List.getElem?_eq_some_iff.1 hy).1
    exact VR.freeze hrow hcs hone hvr (hz j _ y' (List.getElem?_eq_getElem hj) hy) (hv j _ cv (List.getElem?_eq_getElem hj) hc)
  · rcases q with q | ⟨rfl, _⟩
    · exact hs.lt _ _ q
    · exact hrow.lt
  · rintro e w' ⟨r, cr, st', κ', rfl, ⟨rfl, rfl⟩, hr, hs', hstp, _⟩
    have hle : ∀ b' o, κ b' o → κ' b' o := fun b' o q => hstp.ext.le b' o (.inl q)
    have hne : ∀ b' o, κ b' o → b' ≠ b := fun b' o q e => hnk o (e ▸ q)
    have hext' : Ext w κ w' (fun b' o => κ' b' o ∧ b' ≠ b) := ⟨fun b' o q => ⟨hle b' o q, hne b' o q⟩, fun b' o q => hstp.ext.cell b' o (.inl q)⟩
    have hblk : w'.heap[b]? = w.heap[b]? := hstp.block b hrow.lt (by simp [own])
    refine ⟨r, cr, [.obj tag b cells], fun b' o => κ' b' o ∧ b' ≠ b, rfl, ⟨rfl, rfl⟩, VR.plain hp hr, ⟨fun g => (hs.glob g).mono hext', fun s hm => ?_, hs.nodup, fun b' o q => hs'.lt b' o q.1⟩,
      ⟨hext', hstp.os, hstp.tape, hstp.output, hstp.size, fun k hk _ => hstp.block k hk (by simp [own]), fun b' o q hb _ => ?_⟩, .refl _ _⟩
    · simp at hm; subst hm
      exact ⟨c, hrow.keep hblk, hcs, hone, fun o q => q.2 rfl, fun j x u h1 h2 => (hvr j x u h1 h2).mono hext'⟩
    · rcases hstp.im b' o q.1 hb (by simp [own]) with k | ⟨k, _⟩
      · exact k
      · exact absurd k q.2

/-- A call that is lent a block. -/
theorem CallGoal.lend {P : Program} {G : Nat → AV} {f : FuncId} {args : List AV} (args' : List AV) {x : AV} {tag b : Nat} {cells : List AV} {l₁ l₂ : St} {K : AV → St → Prop} (sz : Nat) (h : ACall P G f args' (fun r st' => r = x ∧ st' = []) []) (hp : Plain x)
    (hl : args.length = args'.length) (hz : ∀ (j : Nat) y y', args[j]? = some y → args'[j]? = some y' → Fz tag b sz cells y y')
    (k : K x (.obj tag b cells :: (l₁ ++ l₂))) : CallGoal P G f args (l₁ ++ .obj tag b cells :: l₂) K :=
  ⟨_, [.obj tag b cells], l₁ ++ l₂, List.perm_middle, ACall.lend (sz := sz) hl hz hp h, fun r st' ⟨e1, e2⟩ => by subst e1 e2; exact k⟩

/-! ### Words -/
abbrev u64 (n : Int) : AV := .int .u64 n
abbrev ws (l : List Int) : List AV := l.map u64
/-- A number below 2^256, as the program has it. -/
abbrev num (n : Int) : AV := .agg (ws (dig 4 n))
theorem dig_inj : ∀ {k : Nat} {a b : Int}, 0 ≤ a → a < 18446744073709551616 ^ k → 0 ≤ b → b < 18446744073709551616 ^ k → dig k a = dig k b → a = b := fun h1 h2 h3 h4 e => by
  rw [← val_dig _ _ h1 h2, ← val_dig _ _ h3 h4, e]
theorem eqAt_ws : ∀ (l m : List Int), l.length = m.length → ∀ (o : Nat) (pl pm : List AV), pl.length = o → pm.length = o → eqAt (pl ++ ws l) (pm ++ ws m) ((List.range' o l.length).map fun i => (i, Leaf.int)) = decide (l = m)
  | [], [], _, o, pl, pm, _, _ => rfl
  | x :: l, y :: m, h, o, pl, pm, h1, h2 => by
    simp only [List.length_cons, List.range'_succ, List.map_cons, eqAt]
    have e := eqAt_ws l m (by simpa using h) (o + 1) (pl ++ [u64 x]) (pm ++ [u64 y]) (by simp [h1]) (by simp [h2])
    simp only [List.append_assoc, List.singleton_append] at e
    simp only [ws, List.map_cons] at e ⊢
    rw [e]
    have e1 : (pl ++ u64 x :: List.map u64 l).getD o .any = u64 x := by subst h1; simp [List.getD]
    have e2 : (pm ++ u64 y :: List.map u64 m).getD o .any = u64 y := by rw [← h2]; simp [List.getD]
    rw [e1, e2]
    simp only [eqCell]
    by_cases q : x = y <;> by_cases q2 : l = m <;> simp [q, q2]
theorem flatAt_ws : ∀ (l m : List Int), l.length = m.length → ∀ (o : Nat) (pl pm : List AV), pl.length = o → pm.length = o → flatAt (pl ++ ws l) (pm ++ ws m) ((List.range' o l.length).map fun i => (i, Leaf.int)) = true
  | [], [], _, o, pl, pm, _, _ => rfl
  | x :: l, y :: m, h, o, pl, pm, h1, h2 => by
    simp only [List.length_cons, List.range'_succ, List.map_cons, flatAt]
    have e := flatAt_ws l m (by simpa using h) (o + 1) (pl ++ [u64 x]) (pm ++ [u64 y]) (by simp [h1]) (by simp [h2])
    simp only [List.append_assoc, List.singleton_append] at e
    simp only [ws, List.map_cons] at e ⊢
    rw [e]
    have e1 : (pl ++ u64 x :: List.map u64 l).getD o .any = u64 x := by subst h1; simp [List.getD]
    have e2 : (pm ++ u64 y :: List.map u64 m).getD o .any = u64 y := by rw [← h2]; simp [List.getD]
    rw [e1, e2]
    rfl
/-- Two numbers are held against each other. -/
theorem EqGoal.num {neg : Bool} {a b : Int} {K : Bool → Prop} (ha : 0 ≤ a ∧ a < 18446744073709551616 ^ 4) (hb : 0 ≤ b ∧ b < 18446744073709551616 ^ 4) (k : K (if neg then !(decide (a = b)) else decide (a = b))) : EqGoal neg 4 (ws (dig 4 a)) (ws (dig 4 b)) [(0, .int), (1, .int), (2, .int), (3, .int)] K := by
  have h1 := eqAt_ws (dig 4 a) (dig 4 b) rfl 0 [] [] rfl rfl
  have h2 := flatAt_ws (dig 4 a) (dig 4 b) rfl 0 [] [] rfl rfl
  refine EqGoal.of (decide (a = b)) ⟨⟨Nat.le_of_ble_eq_true rfl, Nat.le_of_ble_eq_true rfl, h2⟩, ?_⟩ k
  refine Eq.trans h1 ?_
  by_cases q : a = b
  · simp [q]
  · rw [decide_eq_false q, decide_eq_false fun e => q (dig_inj ha.1 ha.2 hb.1 hb.2 e)]
theorem plain_num (n : Int) : Plain (num n) := .agg _ fun x hx => by
  obtain ⟨y, _, rfl⟩ := List.mem_map.1 hx; exact .v _
theorem plain_two {x y : AV} (hx : Plain x) (hy : Plain y) : Plain (.tup [x, y]) := .tup _ fun z hz => by
  simp at hz; rcases hz with rfl | rfl <;> assumption
theorem wrap_u64 (n : Int) : IntKind.u64.wrap n = n % 18446744073709551616 := by
  simp only [IntKind.wrap, IntKind.bits, IntKind.signed]; rfl
theorem RetGoal.frz {ts : List RV} {R : AV → St → Prop} {fr : Fr} {tag b sz : Nat} {cells : List AV} (fr1 : Fr) (h1 : ∀ p ∈ fr1, ∃ x, fr.get p.1 = some x ∧ Fz tag b sz cells x p.2) (h : retVC ts fr1 [] fun r => R r []) : RetGoal ts R fr [.obj tag b cells] :=
  ⟨fr1, [], Frz.step (l₁ := []) (l₂ := []) tag b sz cells (fun i x' hi => h1 _ (get_mem hi)) (.refl _ _), retVC_mono (fun r q => ⟨[], St.le_nil _, q⟩) h⟩
end Go.Eng
