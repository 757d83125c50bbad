/- The rows of DerShort and DerNone. -/
import Derived.Test.YtmkgbegneiaaiaaDerF
import Derived.Test.YtmkgbegneiaaiaaDerR
namespace Go.Proofs.Ytmkgbegneiaaiaa
open Go.Eng Go.ChangeShapes Go.WideShapes Go.ChangeAt Go.RowKit
set_option maxHeartbeats 1000000
set_option linter.unusedVariables false

theorem derShort_call (W : World) (app : App) (l : List UInt8) (v : Value) (h : app = .nil ∧ l = [] ∨ app = .no) (hl : l.length ≤ maxLen) (hv : VR W (allIm W) (bs app l) v) :
    Calls P0 5 #[v] W fun e W' => e = .returned (.bool true) ∧ Below W.heap.size W W' :=
  ACall.law (ACall.fn fn5 (Nat.le_of_ble_eq_true rfl) (dershort_vc sound_ok get_ok put_ok app l (fun e => by rcases h with ⟨_, h⟩ | h; exact h; rw [e] at h; cases h) (Nat.le_trans hl (by decide)))) (g0_ok W) rfl (one_arg hv) bool_of

theorem derNone_ans (tag : UInt8) : Ans P0 G0 8 [u8 tag] (.bool true) := by
  have n0 : Ans P0 G0 23 [.v (.pointer none), u8 tag] (.bool false) := ACall.fn fn23 (Nat.le_of_ble_eq_true rfl) (next0_vc tag)
  have t0 : Ans P0 G0 24 [.v (.pointer none), u8 tag] (bs .nil []) := ACall.fn fn24 (Nat.le_of_ble_eq_true rfl) (take0_vc tag n0 (ACall.fn fn30 (Nat.le_of_ble_eq_true rfl) fail0_vc))
  exact ACall.fn fn8 (Nat.le_of_ble_eq_true rfl) (dernone_vc tag sound_ok (ACall.fn fn25 (Nat.le_of_ble_eq_true rfl) (in0_vc tag t0)) n0 t0 (ACall.fn fn22 (Nat.le_of_ble_eq_true rfl) done0_vc) (ACall.fn fn22 (Nat.le_of_ble_eq_true rfl) done1_vc)
    (ACall.fn fn22 (Nat.le_of_ble_eq_true rfl) done2_vc) (ACall.fn fn23 (Nat.le_of_ble_eq_true rfl) (next1_vc tag)) (ACall.fn fn21 (Nat.le_of_ble_eq_true rfl) from0_vc))
theorem derNone_call (W : World) (n : Int) (h : IntKind.u8.min ≤ n ∧ n ≤ IntKind.u8.max) : Calls P0 8 #[.int .u8 n] W fun e W' => e = .returned (.bool true) ∧ Below W.heap.size W W' := by
  have h' : 0 ≤ n ∧ n < 256 := by simp [IntKind.min, IntKind.max, IntKind.signed, IntKind.bits] at h; omega
  have e : (((UInt8.ofNat n.toNat).toNat : Nat) : Int) = n := by rw [UInt8.toNat_ofNat']; omega
  have hv : VR W (allIm W) (u8 (UInt8.ofNat n.toNat)) (.int .u8 n) := by unfold u8; rw [e]; exact .v _
  exact ACall.law (derNone_ans _) (g0_ok W) rfl (one_arg hv) bool_of

set_option maxRecDepth 100000 in
theorem derShort_lifted (os : Os) (started : os.Started) (H : Type) (enc : TypeId × Value → H) :
    ReturnsInHanded {} Try.checked os 5 .any (Rows.derShortSpec.pre6 enc Try.prog Try.f5 Rows.derShortRow.domain false) (Rows.derShortSpec.post enc Try.prog Try.f5 false true false false) := by
  refine returnsInHanded_of_change (C := Try.checked) Try.own started (by kernel_rfl) Try.func5
    (ChangeSpec.witness6 (enc := enc) (C := Try.checked) false ⟨#[], #[.slice none 0 0], []⟩ 8 (by kernel_rfl) (by kernel_rfl) (by kernel_rfl) (by kernel_rfl)) ?_
  intro W base args ds gs before hval0 hW hcnd _
  have hval : ∀ (j : Nat) t v, Try.f5.params[j]? = some t → args[j]? = some v → Value.okWide Try.prog W .any base t v := hval0
  refine law_post (tb := 4) Try.laidOut (by kernel_rfl) rfl (by kernel_rfl) rfl (fun ds h => ?_) hW ?_
  · match ds, h with
    | [d], _ => rfl
  obtain ⟨p, q, hA0, hV, rfl, _, _⟩ := hW
  have hA : DataW.TrodAll enc Try.prog W 0 (fun _ => true) true Try.f5.params.toList args.toList ds p := hA0
  rw [Try.params5] at hA hval
  obtain ⟨v0, d0, rfl, rfl, h0⟩ := trodAll_one hA
  obtain ⟨app, l, h1, h2, h3⟩ := open_bytes Try.underlying24 Try.underlying5 cells5 (hval 0 24 v0 rfl rfl) h0
  exact derShort_call W app l v0 h1 h2 h3

theorem derShort_holds : Rows.DerShortSaid :=
  OpenClaim.holds_of_wide 5 Try.f5 rfl rfl rfl rfl rfl rfl rfl ⟨rfl, rfl, rfl, rfl, rfl⟩ rfl rfl rfl rfl rfl (by kernel_rfl) Try.func5 (by kernel_rfl)
    (of_decide_eq_true (by kernel_rfl)) (by unfold Func.isWrapper; first | (rw [if_pos (by decide +kernel)]; kernel_rfl) | (rw [if_neg (by decide +kernel)]; exact ⟨rfl, rfl⟩))
    (fun os started H enc _ => derShort_lifted os started H enc)

set_option maxRecDepth 100000 in
theorem derNone_lifted (os : Os) (started : os.Started) (H : Type) (enc : TypeId × Value → H) :
    ReturnsInHanded {} Try.checked os 8 .any (Rows.derNoneSpec.pre6 enc Try.prog Try.f8 Rows.derNoneRow.domain false) (Rows.derNoneSpec.post enc Try.prog Try.f8 false true false false) := by
  refine returnsInHanded_of_change (C := Try.checked) Try.own started (by kernel_rfl) Try.func8
    (ChangeSpec.witness6 (enc := enc) (C := Try.checked) false ⟨#[], #[.int .u8 0], []⟩ 8 (by kernel_rfl) (by kernel_rfl) (by kernel_rfl) (by kernel_rfl)) ?_
  intro W base args ds gs before hval0 hW hcnd _
  have hval : ∀ (j : Nat) t v, Try.f8.params[j]? = some t → args[j]? = some v → Value.okWide Try.prog W .any base t v := hval0
  refine law_post (tb := 4) Try.laidOut (by kernel_rfl) rfl (by kernel_rfl) rfl (fun ds h => ?_) hW ?_
  · match ds, h with
    | [d], _ => rfl
  obtain ⟨p, q, hA0, hV, rfl, _, _⟩ := hW
  have hA : DataW.TrodAll enc Try.prog W 0 (fun _ => true) true Try.f8.params.toList args.toList ds p := hA0
  rw [Try.params8] at hA hval
  obtain ⟨v0, d0, rfl, rfl, h0⟩ := trodAll_one hA
  obtain ⟨n, h1, rfl⟩ := open_whole Try.underlying5 (hval 0 5 v0 rfl rfl) h0
  exact derNone_call W n h1

theorem derNone_holds : Rows.DerNoneSaid :=
  OpenClaim.holds_of_wide 8 Try.f8 rfl rfl rfl rfl rfl rfl rfl ⟨rfl, rfl, rfl, rfl, rfl⟩ rfl rfl rfl rfl rfl (by kernel_rfl) Try.func8 (by kernel_rfl)
    (of_decide_eq_true (by kernel_rfl)) (by unfold Func.isWrapper; first | (rw [if_pos (by decide +kernel)]; kernel_rfl) | (rw [if_neg (by decide +kernel)]; exact ⟨rfl, rfl⟩))
    (fun os started H enc _ => derNone_lifted os started H enc)
end Go.Proofs.Ytmkgbegneiaaiaa
