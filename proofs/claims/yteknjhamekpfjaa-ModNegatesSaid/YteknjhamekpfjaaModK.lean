/- Walks: ModExponents; what holds of the program itself. -/
import Derived.Test.YteknjhamekpfjaaModJ
import Derived.Test.YteknjhamekpfjaaEngT
namespace Go.Proofs.Yteknjhamekpfjaa
open Go.Eng Go.Num
set_option maxHeartbeats 2000000
set_option maxRecDepth 10000
set_option linter.unusedVariables false
set_option linter.unusedSimpArgs false

theorem wadd_ok : WaddOk P0 G0 := fun ha hb => ACall.fn fn43 (Nat.le_of_ble_eq_true rfl) (wadd_vc ha hb)
theorem wsub_ok : WsubOk P0 G0 := fun ha hb => ACall.fn fn47 (Nat.le_of_ble_eq_true rfl) (wsub_vc ha hb)
theorem pick_ok : PickOk P0 G0 := fun hx ha hb => ACall.fn fn48 (Nat.le_of_ble_eq_true rfl) (pick_vc hx ha hb)
theorem less_ok : LessOk P0 G0 := fun ha hb => ACall.fn fn65 (Nat.le_of_ble_eq_true rfl) (less_vc wsub_ok ha hb)
theorem bit_ok : BitOk P0 G0 := fun hn hi => ACall.fn fn49 (Nat.le_of_ble_eq_true rfl) (bit_vc hn hi)
theorem bytes_ok : BytesOk P0 G0 := fun hn => ACall.fn fn66 (Nat.le_of_ble_eq_true rfl) (bytes_vc hn)
theorem once_ok : OnceOk P0 G0 := fun hm ha ho h => ACall.fn fn45 (Nat.le_of_ble_eq_true rfl) (once_vc wsub_ok pick_ok hm ha ho h)
theorem double_ok : DoubleOk P0 G0 := fun hm ha => ACall.fn fn42 (Nat.le_of_ble_eq_true rfl) (double_vc wadd_ok once_ok hm ha)
theorem reduce_ok : ReduceOk P0 G0 := fun hm hl => ACall.fn fn30 (Nat.le_of_ble_eq_true rfl) (reduce_vc wadd_ok once_ok double_ok hm hl)
theorem low_ok : LowOk P0 G0 := fun hm ha => ACall.fn fn44 (Nat.le_of_ble_eq_true rfl) (low_vc less_ok bytes_ok reduce_ok hm ha)
theorem madd_ok : MaddOk P0 G0 := fun hm ha hb => ACall.fn fn17 (Nat.le_of_ble_eq_true rfl) (madd_vc low_ok wadd_ok once_ok hm ha hb)
theorem msub_ok : MsubOk P0 G0 := fun hm ha hb => ACall.fn fn19 (Nat.le_of_ble_eq_true rfl) (msub_vc low_ok wsub_ok wadd_ok pick_ok hm ha hb)
theorem mul64_ok : Mul64Ok P0 G0 := fun hx hy => ACall.fn fn54 (Nat.le_of_ble_eq_true rfl) (mul64_vc hx hy)
theorem mont_ok : MontOk P0 G0 := fun hm ha hb => ACall.fn fn46 (Nat.le_of_ble_eq_true rfl) (mont_vc mul64_ok once_ok hm ha hb)
theorem mmul_ok : MmulOk P0 G0 := fun hm ha hb => ACall.fn fn18 (Nat.le_of_ble_eq_true rfl) (mmul_vc low_ok mont_ok hm ha hb)
theorem mpow_ok : MpowOk P0 G0 := fun hm ha he => ACall.fn fn20 (Nat.le_of_ble_eq_true rfl) (mpow_vc low_ok mont_ok bit_ok pick_ok hm ha he)
theorem minv_ok : MinvOk P0 G0 := fun hm ha => ACall.fn fn22 (Nat.le_of_ble_eq_true rfl) (minv_vc wsub_ok mpow_ok hm ha)
theorem mnew_ok : MnewOk P0 G0 := fun hm => ACall.fn fn16 (Nat.le_of_ble_eq_true rfl) (mnew_vc double_ok hm)
theorem mnewbad_ok : MnewBadOk P0 G0 := fun hm h => ACall.fn fn16 (Nat.le_of_ble_eq_true rfl) (mnewbad_vc hm h)
end Go.Proofs.Yteknjhamekpfjaa
