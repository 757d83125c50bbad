/- The engine, part B: what a piece of code does, said of abstract frames; control. -/
import Derived.Test.YteknjhamekpfjaaEngA
import Derived.Deep.LoopGhost
import Derived.Tactics
import Derived.Orders
set_option linter.unusedVariables false
set_option linter.unusedSimpArgs false
namespace Go.Eng
open Go.RowKit

abbrev AQ := Exit → Fr → St → Prop

/-- Behind the code: some frame and state of which Q holds, and nothing of others' has turned. -/
def Post (G : Nat → AV) (N : Nat) (Q : AQ) (S : List Nat) (w : World) (κ : Im) (e : Exit) (a' : Act) (w' : World) : Prop :=
  ∃ fr' st' κ', Q e fr' st' ∧ FrR N w' κ' fr' a' ∧ StR G w' κ' st' ∧ Stp S w κ w' κ' ∧ Mine S w (own st')

def AWP (P : Program) (G : Nat → AV) (N : Nat) (c : Code) (Q : AQ) (fr : Fr) (st : St) : Prop :=
  ∀ a w κ, FrR N w κ fr a → StR G w κ st → c.wp P (Post G N Q (own st) w κ) a w

theorem Post.trans {G : Nat → AV} {N : Nat} {Q : AQ} {S S₁ : List Nat} {w w₁ : World} {κ κ₁ : Im} {e : Exit} {a' : Act} {w' : World} (h : Stp S w κ w₁ κ₁) (hm : Mine S w S₁)
    (k : Post G N Q S₁ w₁ κ₁ e a' w') : Post G N Q S w κ e a' w' := by
  obtain ⟨fr, st, κ', hq, hf, hs, hp, hn⟩ := k
  exact ⟨fr, st, κ', hq, hf, hs, h.trans hm hp, hm.trans h.size hn⟩

theorem Post.mono {G : Nat → AV} {N : Nat} {Q Q' : AQ} {S : List Nat} {w : World} {κ : Im} {e : Exit} {a' : Act} {w' : World} (h : ∀ fr st, Q e fr st → Q' e fr st)
    (k : Post G N Q S w κ e a' w') : Post G N Q' S w κ e a' w' := by
  obtain ⟨fr, st, κ', hq, r⟩ := k
  exact ⟨fr, st, κ', h _ _ hq, r⟩

section
variable {P : Program} {G : Nat → AV} {N : Nat} {Q Q' : AQ} {fr fr' : Fr} {st st' : St}

theorem AWP.mono {c : Code} (h : AWP P G N c Q fr st) (hq : ∀ e fr st, Q e fr st → Q' e fr st) : AWP P G N c Q' fr st :=
  fun a w κ hf hs => wp_mono (h a w κ hf hs) fun e a' w' k => k.mono (hq e)

/-- A frame that tells less. -/
def Fr.sub (fr' fr : Fr) : Prop := ∀ p ∈ fr', fr.get p.1 = some p.2
theorem get_mem {fr : Fr} {i : Nat} {x : AV} (h : fr.get i = some x) : (i, x) ∈ fr := by
  induction fr with
  | nil => simp [Fr.get] at h
  | cons p r ih =>
    obtain ⟨j, y⟩ := p
    simp only [Fr.get] at h
    split at h
    · rename_i e; subst e; cases h; simp
    · exact List.mem_cons_of_mem _ (ih h)
theorem Fr.sub_get {fr' fr : Fr} (h : Fr.sub fr' fr) : ∀ i x, fr'.get i = some x → fr.get i = some x :=
  fun i x hi => h _ (get_mem hi)
theorem Fr.sub_nil (fr : Fr) : Fr.sub [] fr := fun _ h => by cases h
theorem Fr.sub_cons {i : Nat} {x : AV} {r fr : Fr} (h : fr.get i = some x) (k : Fr.sub r fr) : Fr.sub ((i, x) :: r) fr := fun p hp => by
  rcases List.mem_cons.1 hp with rfl | q
  · exact h
  · exact k p q

theorem AWP.weak {c : Code} (hs : Fr.sub fr' fr) (h : AWP P G N c Q fr' st) : AWP P G N c Q fr st :=
  fun a w κ hf k => h a w κ (hf.weak (Fr.sub_get hs)) k

theorem StR.drop {w : World} {κ : Im} (h : StR G w κ st) (hs : st'.Sublist st) : StR G w κ st' :=
  ⟨h.glob, fun s hm => h.seg s (hs.subset hm), (hs.filterMap _).nodup h.nodup, h.lt⟩
theorem own_sub (hs : st'.Sublist st) : ∀ b ∈ own st', b ∈ own st := fun b hb => (hs.filterMap _).subset hb

theorem AWP.drop {c : Code} (hs : st'.Sublist st) (h : AWP P G N c Q fr st') : AWP P G N c Q fr st := fun a w κ hf k => by
  refine wp_mono (h a w κ hf (k.drop hs)) fun e a' w' q => ?_
  obtain ⟨fr1, st1, κ1, hq, h1, h2, h3, h4⟩ := q
  exact ⟨fr1, st1, κ1, hq, h1, h2, h3.mono (own_sub hs), fun b hb => (h4 b hb).imp (own_sub hs b) id⟩

theorem AWP.perm {c : Code} (hs : st'.Perm st) (h : AWP P G N c Q fr st') : AWP P G N c Q fr st := fun a w κ hf k => by
  have hp : (own st').Perm (own st) := hs.filterMap _
  refine wp_mono (h a w κ hf ⟨k.glob, fun s hm => k.seg s (hs.subset hm), hp.nodup_iff.2 k.nodup, k.lt⟩) fun e a' w' q => ?_
  obtain ⟨fr1, st1, κ1, hq, h1, h2, h3, h4⟩ := q
  exact ⟨fr1, st1, κ1, hq, h1, h2, h3.mono (fun b hb => hp.subset hb), fun b hb => (h4 b hb).imp (fun hb => hp.subset hb) id⟩

theorem AWP.now {κ : Im} {e : Exit} {a : Act} {w : World} (hq : Q e fr st) (hf : FrR N w κ fr a) (hs : StR G w κ st) : Post G N Q (own st) w κ e a w :=
  ⟨fr, st, κ, hq, hf, hs, .refl _ _ _, .refl _ _⟩

theorem AWP.skip (h : Q .normal fr st) : AWP P G N .skip Q fr st := fun a w κ hf hs => wp_skip (AWP.now h hf hs)
theorem AWP.ret (h : Q .ret fr st) : AWP P G N .ret Q fr st := fun a w κ hf hs => wp_ret (AWP.now h hf hs)
theorem AWP.exit {id : Nat} (h : Q (.exit id) fr st) : AWP P G N (.exit id) Q fr st := fun a w κ hf hs => wp_exit (AWP.now h hf hs)

def AQ.then (next : Fr → St → Prop) (Q : AQ) : AQ := fun e fr st => match e with
  | .normal => next fr st
  | e => Q e fr st

theorem AWP.seq {x y : Code} (h : AWP P G N x (AQ.then (AWP P G N y Q) Q) fr st) : AWP P G N (.seq x y) Q fr st := fun a w κ hf hs => by
  refine wp_seq (wp_mono (h a w κ hf hs) fun e a' w' q => ?_)
  obtain ⟨fr1, st1, κ1, hq, h1, h2, h3, h4⟩ := q
  cases e with
  | normal => exact wp_mono (hq a' w' κ1 h1 h2) fun e a2 w2 q2 => Post.trans h3 h4 q2
  | _ => exact ⟨fr1, st1, κ1, hq, h1, h2, h3, h4⟩

def AQ.inBlock (id : Nat) (Q : AQ) : AQ := fun e fr st => match e with
  | .exit id' => if id' = id then Q .normal fr st else Q (.exit id') fr st
  | e => Q e fr st

theorem AWP.block {id : Nat} {c : Code} (h : AWP P G N c (AQ.inBlock id Q) fr st) : AWP P G N (.block id c) Q fr st := fun a w κ hf hs => by
  refine wp_block (wp_mono (h a w κ hf hs) fun e a' w' q => ?_)
  obtain ⟨fr1, st1, κ1, hq, r⟩ := q
  cases e with
  | exit id' =>
    simp only [AQ.inBlock] at hq
    simp only [Exit.inBlock]
    split
    · rename_i e; rw [if_pos e] at hq; exact ⟨fr1, st1, κ1, hq, r⟩
    · rename_i e; rw [if_neg e] at hq; exact ⟨fr1, st1, κ1, hq, r⟩
  | _ => exact ⟨fr1, st1, κ1, hq, r⟩

theorem VR.v_inv {w : World} {κ : Im} {x c : Value} (h : VR w κ (.v x) c) : c = x := by cases h; rfl

theorem AWP.cond {c : Operand} {x y : Code} {t : Bool} (hc : ∀ a w κ, FrR N w κ fr a → StR G w κ st → a.eval c = .bool t) (ht : t = true → AWP P G N x Q fr st) (he : t = false → AWP P G N y Q fr st) :
    AWP P G N (.cond c x y) Q fr st := fun a w κ hf hs => by
  have hv := hc a w κ hf hs
  cases t with
  | true => exact wp_cond hv (ht rfl a w κ hf hs)
  | false => exact wp_cond hv (he rfl a w κ hf hs)

/-- A loop: what holds at each round's head bears a number that every round lowers. -/
theorem AWP.loop {c : Code} (I : Nat → Fr → St → Prop) (n₀ : Nat) (h₀ : I n₀ fr st)
    (round : ∀ n fr st, I n fr st → AWP P G N c (AQ.then (fun fr' st' => ∃ m, m < n ∧ ∃ fr'', Fr.sub fr'' fr' ∧ I m fr'' st') Q) fr st) : AWP P G N (.loop c) Q fr st := fun a w κ hf hs => by
  refine wp_loop_ghost (fun n a' w' => ∃ fr' st' κ', I n fr' st' ∧ FrR N w' κ' fr' a' ∧ StR G w' κ' st' ∧ Stp (own st) w κ w' κ' ∧ Mine (own st) w (own st')) n₀
    ⟨fr, st, κ, h₀, hf, hs, .refl _ _ _, .refl _ _⟩ ?_
  rintro n a' w' ⟨fr1, st1, κ1, hI, h1, h2, h3, h4⟩
  refine wp_mono (round n fr1 st1 hI a' w' κ1 h1 h2) fun e a2 w2 q => ?_
  have q' := Post.trans h3 h4 q
  obtain ⟨fr2, st2, κ2, hq, k1, k2, k3, k4⟩ := q'
  cases e with
  | normal =>
    obtain ⟨m, hm, fr3, hs3, hI3⟩ := hq
    exact ⟨m, hm, fr3, st2, κ2, hI3, k1.weak (Fr.sub_get hs3), k2, k3, k4⟩
  | _ => exact ⟨fr2, st2, κ2, hq, k1, k2, k3, k4⟩
end

/-! ### Calls -/
def ACall (P : Program) (G : Nat → AV) (f : FuncId) (args : List AV) (R : AV → St → Prop) (st : St) : Prop :=
  ∀ (w : World) (κ : Im) (cargs : Array Value), cargs.size = args.length → (∀ (j : Nat) x c, args[j]? = some x → cargs[j]? = some c → VR w κ x c) → StR G w κ st →
    Calls P f cargs w fun e w' => ∃ r cr st' κ', e = .returned cr ∧ R r st' ∧ VR w' κ' r cr ∧ StR G w' κ' st' ∧ Stp (own st) w κ w' κ' ∧ Mine (own st) w (own st')

theorem ACall.mono {P : Program} {G : Nat → AV} {f : FuncId} {args : List AV} {R R' : AV → St → Prop} {st : St} (h : ACall P G f args R st) (hr : ∀ r st, R r st → R' r st) : ACall P G f args R' st :=
  fun w κ cargs h1 h2 h3 => (h w κ cargs h1 h2 h3).mono fun e w' ⟨r, cr, st', κ', he, hR, q⟩ => ⟨r, cr, st', κ', he, hr _ _ hR, q⟩

/-- The frame that a call begins with. -/
def argFr : Nat → List AV → Fr
  | _, [] => []
  | n, x :: r => (n, x) :: argFr (n + 1) r
theorem argFr_get : ∀ (args : List AV) (n i : Nat) (x : AV), Fr.get (argFr n args) i = some x → n ≤ i ∧ args[i - n]? = some x
  | [], n, i, x, h => by simp [argFr, Fr.get] at h
  | y :: r, n, i, x, h => by
    simp only [argFr, Fr.get] at h
    split at h
    · rename_i e; subst e; cases h; exact ⟨Nat.le_refl _, by simp⟩
    · obtain ⟨h1, h2⟩ := argFr_get r (n + 1) i x h
      refine ⟨by omega, ?_⟩
      rw [show i - n = (i - (n + 1)) + 1 from by omega]
      simpa using h2

/-- What a call answers with: a slot; several; a variable in memory is told apart (part C). -/
def ResOk (P : Program) (G : Nat → AV) (fn : Func) (fr : Fr) (st : St) (r : AV) : Prop :=
  ∀ N a w κ, FrR N w κ fr a → StR G w κ st → ∃ cr, (results fn a.tmps).run P w = .ok cr w ∧ VR w κ r cr

theorem ACall.of {P : Program} {G : Nat → AV} {f : FuncId} {fn : Func} {c : Code} {args : List AV} {R : AV → St → Prop} {st : St} (hf : P.funcs[f]? = some fn) (hb : fn.body = some c)
    (hn : args.length ≤ fn.ntmps)
    (h : AWP P G fn.ntmps c (fun e fr st => (e = .ret ∨ e = .normal) ∧ ∃ r, ResOk P G fn fr st r ∧ R r st) (argFr 0 args) st) : ACall P G f args R st := by
  intro w κ cargs hs hv hst
  refine calls_of_wp hf hb ?_
  have hfr : FrR fn.ntmps w κ (argFr 0 args) { tmps := cargs ++ Array.replicate (fn.ntmps - cargs.size) undef, defers := [] } := by
    refine ⟨by simp; omega, rfl, fun i x hi => ?_⟩
    obtain ⟨_, hx⟩ := argFr_get args 0 i x hi
    simp only [Nat.sub_zero] at hx
    have hlt : i < cargs.size := by
      rw [hs]
      exact (List.getElem?_eq_some_iff.1 hx).1
    have := hv i x cargs[i] hx (by simp [hlt])
    simpa [Array.getD_eq_getD_getElem?, Array.getElem?_append, hlt] using this
  refine wp_mono (h _ w κ hfr hst) fun e a' w' q => ?_
  obtain ⟨fr1, st1, κ1, ⟨he, r, hr, hR⟩, h1, h2, h3, h4⟩ := q
  obtain ⟨cr, hcr, hvr⟩ := hr _ _ _ _ h1 h2
  rcases he with rfl | rfl
  · exact ⟨h1.defers, cr, hcr, r, cr, st1, κ1, rfl, hR, hvr, h2, h3, h4⟩
  · exact ⟨h1.defers, cr, hcr, r, cr, st1, κ1, rfl, hR, hvr, h2, h3, h4⟩

theorem ResOk.one {P : Program} {G : Nat → AV} {fn : Func} {fr : Fr} {st : St} {t : Nat} {x : AV} (h : fn.results = #[.tmp t]) (hx : fr.get t = some x) : ResOk P G fn fr st x :=
  fun N a w κ hf hs => ⟨_, results_tmp h _ _ _, hf.slot t x hx⟩
end Go.Eng
