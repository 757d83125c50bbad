/- The rows of der's laws. -/
import Derived.Test.YtmkgbegneiaaiaaDerD
import Derived.Test.YtmkgbegneiaaiaaRows
namespace Go.Proofs.Ytmkgbegneiaaiaa
open Go.Eng Go.ChangeShapes Go.WideShapes Go.ChangeAt Go.RowKit
set_option maxHeartbeats 1000000
set_option linter.unusedVariables false

theorem Try.own : ownKnob Try.prog.godebug = none := by kernel_rfl
theorem Try.laidOut : laidOutB Try.prog = true := by kernel_rfl
theorem cells5 : Try.prog.cellsOf 5 = 1 := by kernel_rfl

theorem put_ok : PutOk P0 G0 := fun tag app ps h1 h2 => ACall.fn fn12 (Nat.le_of_ble_eq_true rfl) (put_vc tag app ps h1 h2)
theorem get_ok : GetOk P0 G0 := fun app l h1 h2 => ACall.fn fn14 (Nat.le_of_ble_eq_true rfl) (get_vc app l h1 h2)
theorem refget_ok : RefGetOk P0 G0 := fun app l h => ACall.fn fn15 (Nat.le_of_ble_eq_true rfl) (refget_vc app l h)
theorem sound_ok : SoundOk P0 G0 :=
  ACall.fn fn11 (Nat.le_of_ble_eq_true rfl) (sound_vc get_ok
    (ACall.fn fn18 (Nat.le_of_ble_eq_true rfl) (num128_vc (ACall.fn fn20 (Nat.le_of_ble_eq_true rfl) (nat128_vc put_ok))))
    (ACall.fn fn26 (Nat.le_of_ble_eq_true rfl) (when_vc put_ok (ACall.fn fn31 (Nat.le_of_ble_eq_true rfl) days_vc2) (ACall.fn fn31 (Nat.le_of_ble_eq_true rfl) days_vc1))))
theorem g0_ok (W : World) : ∀ g, VR W (allIm W) (G0 g) (.pointer (some ⟨g, 0, none⟩)) := fun g => .any _

theorem one_arg {x : AV} {v : Value} {W : World} (h : VR W (allIm W) x v) : ∀ (j : Nat) y c, [x][j]? = some y → (#[v] : Array Value)[j]? = some c → VR W (allIm W) y c := fun j y c h1 h2 => by
  cases j with
  | zero => simp at h1 h2; subst h1 h2; exact h
  | succ j => simp at h1

theorem derGets_call (W : World) (app : App) (l : List UInt8) (v : Value) (h : app = .nil ∧ l = [] ∨ app = .no) (hl : l.length ≤ maxLen) (hv : VR W (allIm W) (bs app l) v) :
    Calls P0 4 #[v] W fun e W' => e = .returned (.bool true) ∧ Below W.heap.size W W' :=
  ACall.law (ACall.fn fn4 (Nat.le_of_ble_eq_true rfl) (dergets_vc sound_ok get_ok refget_ok app l (fun e => by rcases h with ⟨_, h⟩ | h; exact h; rw [e] at h; cases h) (Nat.le_trans hl (by decide)))) (g0_ok W) rfl (one_arg hv) bool_of

set_option maxRecDepth 100000 in
theorem derGets_lifted (os : Os) (started : os.Started) (H : Type) (enc : TypeId × Value → H) :
    ReturnsInHanded {} Try.checked os 4 .any (Rows.derGetsSpec.pre6 enc Try.prog Try.f4 Rows.derGetsRow.domain false) (Rows.derGetsSpec.post enc Try.prog Try.f4 false true false false) := by
  refine returnsInHanded_of_change (C := Try.checked) Try.own started (by kernel_rfl) Try.func4
    (ChangeSpec.witness6 (enc := enc) (C := Try.checked) false ⟨#[], #[.slice none 0 0], []⟩ 8 (by kernel_rfl) (by kernel_rfl) (by kernel_rfl) (by kernel_rfl)) ?_
  intro W base args ds gs before hval0 hW hcnd _
  have hval : ∀ (j : Nat) t v, Try.f4.params[j]? = some t → args[j]? = some v → Value.okWide Try.prog W .any base t v := hval0
  refine law_post (tb := 4) Try.laidOut (by kernel_rfl) rfl (by kernel_rfl) rfl (fun ds h => ?_) hW ?_
  · match ds, h with
    | [d], _ => rfl
  obtain ⟨p, q, hA0, hV, rfl, _, _⟩ := hW
  have hA : DataW.TrodAll enc Try.prog W 0 (fun _ => true) true Try.f4.params.toList args.toList ds p := hA0
  rw [Try.params4] at hA hval
  obtain ⟨v0, d0, rfl, rfl, h0⟩ := trodAll_one hA
  obtain ⟨app, l, h1, h2, h3⟩ := open_bytes Try.underlying24 Try.underlying5 cells5 (hval 0 24 v0 rfl rfl) h0
  exact derGets_call W app l v0 h1 h2 h3

theorem derGets_holds : Rows.DerGetsSaid :=
  OpenClaim.holds_of_wide 4 Try.f4 rfl rfl rfl rfl rfl rfl rfl ⟨rfl, rfl, rfl, rfl, rfl⟩ rfl rfl rfl rfl rfl (by kernel_rfl) Try.func4 (by kernel_rfl)
    (of_decide_eq_true (by kernel_rfl)) (by unfold Func.isWrapper; first | (rw [if_pos (by decide +kernel)]; kernel_rfl) | (rw [if_neg (by decide +kernel)]; exact ⟨rfl, rfl⟩))
    (fun os started H enc _ => derGets_lifted os started H enc)
end Go.Proofs.Ytmkgbegneiaaiaa
