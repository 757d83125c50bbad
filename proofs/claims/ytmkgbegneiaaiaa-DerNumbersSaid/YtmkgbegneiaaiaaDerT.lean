/- The row of DerPuts. -/
import Derived.Test.YtmkgbegneiaaiaaDerG
import Derived.Test.YtmkgbegneiaaiaaDerS
namespace Go.Proofs.Ytmkgbegneiaaiaa
open Go.Eng Go.ChangeShapes Go.WideShapes Go.ChangeAt Go.RowKit
set_option maxHeartbeats 1000000
set_option linter.unusedVariables false

theorem refput_ok : RefPutOk P0 G0 := fun tag app l h => ACall.fn fn13 (Nat.le_of_ble_eq_true rfl) (refput_vc tag app l h)
theorem cells24 : Try.prog.cellsOf 24 = 1 := by kernel_rfl
theorem two_args {x y : AV} {u v : Value} {W : World} (h : VR W (allIm W) x u) (k : VR W (allIm W) y v) : ∀ (j : Nat) z c, [x, y][j]? = some z → (#[u, v] : Array Value)[j]? = some c → VR W (allIm W) z c := fun j z c h1 h2 => by
  match j with
  | 0 => simp at h1 h2; subst h1 h2; exact h
  | 1 => simp at h1 h2; subst h1 h2; exact k
  | j + 2 => simp at h1
theorem byte_of {n : Int} (h : IntKind.u8.min ≤ n ∧ n ≤ IntKind.u8.max) (W : World) : ∃ c : UInt8, VR W (allIm W) (u8 c) (.int .u8 n) := by
  have h' : 0 ≤ n ∧ n < 256 := by simp [IntKind.min, IntKind.max, IntKind.signed, IntKind.bits] at h; omega
  have e : (((UInt8.ofNat n.toNat).toNat : Nat) : Int) = n := by rw [UInt8.toNat_ofNat']; omega
  exact ⟨UInt8.ofNat n.toNat, by unfold u8; rw [e]; exact .v _⟩
theorem derPuts_call (W : World) (tag : UInt8) (app : App) (l : List (App × List UInt8)) (u v : Value) (hp : ∀ p ∈ l, p.2.length ≤ reachBytes ∧ (p.1 = .nil → p.2 = [])) (hu : VR W (allIm W) (u8 tag) u) (hv : VR W (allIm W) (.sl app 1 (l.map fun p => [bs p.1 p.2])) v) :
    Calls P0 3 #[u, v] W fun e W' => e = .returned (.bool true) ∧ Below W.heap.size W W' :=
  ACall.law (ACall.fn fn3 (Nat.le_of_ble_eq_true rfl) (derputs_vc sound_ok put_ok refput_ok tag app l (fun p h => Nat.lt_of_le_of_lt (hp p h).1 (by decide)))) (g0_ok W) rfl (two_args hu hv) bool_of

set_option maxRecDepth 100000 in
theorem derPuts_lifted (os : Os) (started : os.Started) (H : Type) (enc : TypeId × Value → H) :
    ReturnsInHanded {} Try.checked os 3 .any (Rows.derPutsSpec.pre6 enc Try.prog Try.f3 Rows.derPutsRow.domain false) (Rows.derPutsSpec.post enc Try.prog Try.f3 false true false false) := by
  refine returnsInHanded_of_change_sized (C := Try.checked) Try.own started (by kernel_rfl) Try.func3
    (ChangeSpec.witness6 (enc := enc) (C := Try.checked) false ⟨#[], #[.int .u8 0, .slice none 0 0], []⟩ 8 (by kernel_rfl) (by kernel_rfl) (by kernel_rfl) (by kernel_rfl)) ?_
  intro W base args ds gs before hval0 hW hcnd hsz _
  have hval : ∀ (j : Nat) t v, Try.f3.params[j]? = some t → args[j]? = some v → Value.okWide Try.prog W .any base t v := hval0
  refine law_post (tb := 4) Try.laidOut (by kernel_rfl) rfl (by kernel_rfl) rfl (fun ds h => ?_) hW ?_
  · match ds, h with
    | [d1, d2], _ => rfl
  obtain ⟨p, q, hA0, hV, rfl, _, _⟩ := hW
  have hA : DataW.TrodAll enc Try.prog W 0 (fun _ => true) true Try.f3.params.toList args.toList ds p := hA0
  rw [Try.params3] at hA hval
  obtain ⟨v0, v1, d0, d1, p0, p1, rfl, rfl, rfl, h0, h1⟩ := trodAll_two hA
  have hw : ∀ n ∈ d1.weights Try.prog 22, n ≤ reachBytes := fun n hn => by
    have hm := DataW.weights_mem_each (P := Try.prog) (ts := Try.f3.params.toList ++ Rows.derPutsSpec.plain.varTypes Try.prog) (ds := [d0, d1] ++ gs) (j := 1) (t := 22) (d := d1) rfl rfl n hn
    simpa using List.all_eq_true.1 hsz n hm
  obtain ⟨n, hn, rfl⟩ := open_whole Try.underlying5 (hval 0 5 v0 rfl rfl) h0
  obtain ⟨c, hc⟩ := byte_of hn W
  obtain ⟨app, l, k1, k2, k3⟩ := open_byteses Try.underlying22 Try.underlying24 Try.underlying5 cells24 cells5 (by kernel_rfl) (hval 1 22 v1 rfl rfl) h1 hw
  exact derPuts_call W c app l _ v1 k2 hc k3

theorem derPuts_holds : Rows.DerPutsSaid :=
  OpenClaim.holds_of_wide 3 Try.f3 rfl rfl rfl rfl rfl rfl rfl ⟨rfl, rfl, rfl, rfl, rfl⟩ rfl rfl rfl rfl rfl (by kernel_rfl) Try.func3 (by kernel_rfl)
    (of_decide_eq_true (by kernel_rfl)) (by unfold Func.isWrapper; first | (rw [if_pos (by decide +kernel)]; kernel_rfl) | (rw [if_neg (by decide +kernel)]; exact ⟨rfl, rfl⟩))
    (fun os started H enc _ => derPuts_lifted os started H enc)
end Go.Proofs.Ytmkgbegneiaaiaa
