/- The rows of the laws. -/
import Derived.Test.YteknjhamekpfjaaModL
import Derived.Test.YteknjhamekpfjaaRows
namespace Go.Proofs.Yteknjhamekpfjaa
open Go.Eng Go.Num Go.ChangeShapes Go.WideShapes Go.ChangeAt Go.RowKit
set_option maxHeartbeats 1000000
set_option linter.unusedVariables false

theorem Try.own : ownKnob Try.prog.godebug = none := by kernel_rfl
theorem Try.laidOut : laidOutB Try.prog = true := by kernel_rfl
theorem ints22 : IntsT Try.prog .u64 1 22 := .int (by kernel_rfl) (by kernel_rfl)
theorem ints24 : IntsT Try.prog .u64 (4 * 1) 24 := .array (by kernel_rfl) ints22 (by kernel_rfl)
theorem ints25 : IntsT Try.prog .u64 (3 * (4 * 1)) 25 := .array (by kernel_rfl) ints24 (by kernel_rfl)
theorem ints33 : IntsT Try.prog .u64 (2 * 1) 33 := .array (by kernel_rfl) ints22 (by kernel_rfl)
set_option maxRecDepth 100000 in
theorem modLaws_lifted (os : Os) (started : os.Started) (H : Type) (enc : TypeId × Value → H) :
    ReturnsInHanded {} Try.checked os 3 .any (Rows.modLawsSpec.pre6 enc Try.prog Try.f3 Rows.modLawsRow.domain false) (Rows.modLawsSpec.post enc Try.prog Try.f3 false true false false) := by
  refine returnsInHanded_of_change (C := Try.checked) Try.own started (by kernel_rfl) Try.func3
    (ChangeSpec.witness6 (enc := enc) (C := Try.checked) false ⟨#[], #[.agg #[.int .u64 0, .int .u64 0, .int .u64 0, .int .u64 0], .agg #[.int .u64 0, .int .u64 0, .int .u64 0, .int .u64 0, .int .u64 0, .int .u64 0, .int .u64 0, .int .u64 0, .int .u64 0, .int .u64 0, .int .u64 0, .int .u64 0]], []⟩ 8 (by kernel_rfl) (by kernel_rfl) (by kernel_rfl) (by kernel_rfl)) ?_
  intro W base args ds gs before hval0 hW hcnd _
  have hval : ∀ (j : Nat) t v, Try.f3.params[j]? = some t → args[j]? = some v → Value.okWide Try.prog W .any base t v := hval0
  refine law_post (tb := 4) Try.laidOut (by kernel_rfl) rfl (by kernel_rfl) rfl (fun ds h => ?_) hW ?_
  · match ds, h with
    | [e0, e1], _ => rfl
  obtain ⟨p, q, hA0, hV, rfl, _, _⟩ := hW
  have hA : DataW.TrodAll enc Try.prog W 0 (fun _ => true) true Try.f3.params.toList args.toList ds p := hA0
  rw [Try.params3] at hA hval
  obtain ⟨v0, v1, d0, d1, p0, p1, rfl, rfl, rfl, h0, h1⟩ := trodAll_two hA
  obtain ⟨n0, b0, r0⟩ := open_num (e := 22) (by kernel_rfl) ints24 (hval 0 24 v0 rfl rfl) h0
  obtain ⟨x1, y1, z1, bx1, by1, bz1, r1⟩ := open_three (e := 24) (by kernel_rfl) ints25 (hval 1 25 v1 rfl rfl) h1
  exact ACall.law (modlaws_ans b0 bx1 by1 bz1) (g0_any (fun _ => rfl) W) rfl (args_two r0 r1) bool_of
theorem modLaws_holds : Rows.ModLawsSaid :=
  OpenClaim.holds_of_wide 3 Try.f3 rfl rfl rfl rfl rfl rfl rfl ⟨rfl, rfl, rfl, rfl, rfl⟩ rfl rfl rfl rfl rfl (by kernel_rfl) Try.func3 (by kernel_rfl)
    (of_decide_eq_true (by kernel_rfl)) (by unfold Func.isWrapper; first | (rw [if_pos (by decide +kernel)]; kernel_rfl) | (rw [if_neg (by decide +kernel)]; exact ⟨rfl, rfl⟩))
    (fun os started H enc _ => modLaws_lifted os started H enc)

set_option maxRecDepth 100000 in
theorem modExponents_lifted (os : Os) (started : os.Started) (H : Type) (enc : TypeId × Value → H) :
    ReturnsInHanded {} Try.checked os 4 .any (Rows.modExponentsSpec.pre6 enc Try.prog Try.f4 Rows.modExponentsRow.domain false) (Rows.modExponentsSpec.post enc Try.prog Try.f4 false true false false) := by
  refine returnsInHanded_of_change (C := Try.checked) Try.own started (by kernel_rfl) Try.func4
    (ChangeSpec.witness6 (enc := enc) (C := Try.checked) false ⟨#[], #[.agg #[.int .u64 0, .int .u64 0, .int .u64 0, .int .u64 0], .agg #[.int .u64 0, .int .u64 0, .int .u64 0, .int .u64 0], .agg #[.int .u64 0, .int .u64 0]], []⟩ 8 (by kernel_rfl) (by kernel_rfl) (by kernel_rfl) (by kernel_rfl)) ?_
  intro W base args ds gs before hval0 hW hcnd _
  have hval : ∀ (j : Nat) t v, Try.f4.params[j]? = some t → args[j]? = some v → Value.okWide Try.prog W .any base t v := hval0
  refine law_post (tb := 4) Try.laidOut (by kernel_rfl) rfl (by kernel_rfl) rfl (fun ds h => ?_) hW ?_
  · match ds, h with
    | [e0, e1, e2], _ => rfl
  obtain ⟨p, q, hA0, hV, rfl, _, _⟩ := hW
  have hA : DataW.TrodAll enc Try.prog W 0 (fun _ => true) true Try.f4.params.toList args.toList ds p := hA0
  rw [Try.params4] at hA hval
  obtain ⟨v0, v1, v2, d0, d1, d2, p0, p1, p2, rfl, rfl, rfl, h0, h1, h2⟩ := trodAll_three hA
  obtain ⟨n0, b0, r0⟩ := open_num (e := 22) (by kernel_rfl) ints24 (hval 0 24 v0 rfl rfl) h0
  obtain ⟨n1, b1, r1⟩ := open_num (e := 22) (by kernel_rfl) ints24 (hval 1 24 v1 rfl rfl) h1
  obtain ⟨x2, y2, bx2, by2, r2⟩ := open_two (e := 22) (by kernel_rfl) ints33 (hval 2 33 v2 rfl rfl) h2
  exact ACall.law (modexps_ans b0 b1 bx2 by2) (g0_any (fun _ => rfl) W) rfl (args_three r0 r1 r2) bool_of
theorem modExponents_holds : Rows.ModExponentsSaid :=
  OpenClaim.holds_of_wide 4 Try.f4 rfl rfl rfl rfl rfl rfl rfl ⟨rfl, rfl, rfl, rfl, rfl⟩ rfl rfl rfl rfl rfl (by kernel_rfl) Try.func4 (by kernel_rfl)
    (of_decide_eq_true (by kernel_rfl)) (by unfold Func.isWrapper; first | (rw [if_pos (by decide +kernel)]; kernel_rfl) | (rw [if_neg (by decide +kernel)]; exact ⟨rfl, rfl⟩))
    (fun os started H enc _ => modExponents_lifted os started H enc)

end Go.Proofs.Yteknjhamekpfjaa
