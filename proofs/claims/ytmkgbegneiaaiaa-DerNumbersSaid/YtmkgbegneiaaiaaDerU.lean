/- The row of DerNumbers. -/
import Derived.Test.YtmkgbegneiaaiaaDerQ
import Derived.Test.YtmkgbegneiaaiaaDerT
namespace Go.Proofs.Ytmkgbegneiaaiaa
open Go.Eng Go.ChangeShapes Go.WideShapes Go.ChangeAt Go.RowKit
set_option maxHeartbeats 1000000
set_option linter.unusedVariables false

theorem nat_ok : NatOk P0 G0 := fun app l h1 h2 => ACall.fn fn20 (Nat.le_of_ble_eq_true rfl) (natural_vc put_ok app l h1 h2)
theorem refnat_ok : RefNatOk P0 G0 := fun app l h => ACall.fn fn19 (Nat.le_of_ble_eq_true rfl) (refnatural_vc refput_ok app l h)
theorem whole_ok : WholeOk P0 G0 := fun app l h1 h2 => ACall.fn fn16 (Nat.le_of_ble_eq_true rfl) (whole_vc app l h1 h2)
theorem refwhole_ok : RefWholeOk P0 G0 := fun app l h1 h2 => ACall.fn fn17 (Nat.le_of_ble_eq_true rfl) (refwhole_vc refput_ok refnat_ok app l h1 h2)
theorem num_ok : NumOk P0 G0 := fun n h => ACall.fn fn18 (Nat.le_of_ble_eq_true rfl) (number_vc nat_ok n h)
theorem derNumbers_call (W : World) (n : Nat) (h0 : n < 18446744073709551616) (app : App) (l : List UInt8) (u v : Value) (h : app = .nil ∧ l = [] ∨ app = .no) (hl : l.length ≤ maxLen) (hu : VR W (allIm W) (.int .u64 n) u) (hv : VR W (allIm W) (bs app l) v) :
    Calls P0 6 #[u, v] W fun e W' => e = .returned (.bool true) ∧ Below W.heap.size W W' :=
  ACall.law (ACall.fn fn6 (Nat.le_of_ble_eq_true rfl) (dernumbers_vc sound_ok get_ok whole_ok refwhole_ok num_ok nat_ok refnat_ok n h0 app l (fun e => by rcases h with ⟨_, h⟩ | h; exact h; rw [e] at h; cases h) (Nat.le_trans hl (by decide)))) (g0_ok W) rfl (two_args hu hv) bool_of

set_option maxRecDepth 100000 in
theorem derNumbers_lifted (os : Os) (started : os.Started) (H : Type) (enc : TypeId × Value → H) :
    ReturnsInHanded {} Try.checked os 6 .any (Rows.derNumbersSpec.pre6 enc Try.prog Try.f6 Rows.derNumbersRow.domain false) (Rows.derNumbersSpec.post enc Try.prog Try.f6 false true false false) := by
  refine returnsInHanded_of_change (C := Try.checked) Try.own started (by kernel_rfl) Try.func6
    (ChangeSpec.witness6 (enc := enc) (C := Try.checked) false ⟨#[], #[.int .u64 0, .slice none 0 0], []⟩ 8 (by kernel_rfl) (by kernel_rfl) (by kernel_rfl) (by kernel_rfl)) ?_
  intro W base args ds gs before hval0 hW hcnd _
  have hval : ∀ (j : Nat) t v, Try.f6.params[j]? = some t → args[j]? = some v → Value.okWide Try.prog W .any base t v := hval0
  refine law_post (tb := 4) Try.laidOut (by kernel_rfl) rfl (by kernel_rfl) rfl (fun ds h => ?_) hW ?_
  · match ds, h with
    | [d1, d2], _ => rfl
  obtain ⟨p, q, hA0, hV, rfl, _, _⟩ := hW
  have hA : DataW.TrodAll enc Try.prog W 0 (fun _ => true) true Try.f6.params.toList args.toList ds p := hA0
  rw [Try.params6] at hA hval
  obtain ⟨v0, v1, d0, d1, p0, p1, rfl, rfl, rfl, h0, h1⟩ := trodAll_two hA
  obtain ⟨n, hn, rfl⟩ := open_whole Try.underlying34 (hval 0 34 v0 rfl rfl) h0
  obtain ⟨app, l, k1, k2, k3⟩ := open_bytes Try.underlying24 Try.underlying5 cells5 (hval 1 24 v1 rfl rfl) h1
  have hn' : 0 ≤ n ∧ n < 18446744073709551616 := by simp [IntKind.min, IntKind.max, IntKind.signed, IntKind.bits] at hn; omega
  exact derNumbers_call W n.toNat (by omega) app l _ v1 k1 k2 (by rw [Int.toNat_of_nonneg hn'.1]; exact .v _) k3

theorem derNumbers_holds : Rows.DerNumbersSaid :=
  OpenClaim.holds_of_wide 6 Try.f6 rfl rfl rfl rfl rfl rfl rfl ⟨rfl, rfl, rfl, rfl, rfl⟩ rfl rfl rfl rfl rfl (by kernel_rfl) Try.func6 (by kernel_rfl)
    (of_decide_eq_true (by kernel_rfl)) (by unfold Func.isWrapper; first | (rw [if_pos (by decide +kernel)]; kernel_rfl) | (rw [if_neg (by decide +kernel)]; exact ⟨rfl, rfl⟩))
    (fun os started H enc _ => derNumbers_lifted os started H enc)
end Go.Proofs.Ytmkgbegneiaaiaa
