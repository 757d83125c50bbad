/-
  No cell of these rows narrows 'for every input' (looked for: loops, veiled, ifaces, maps, wideKeys, modest, calm, conditions, laid).
  DERIVED. THE GIVEN ROWS OF THIS SEAT. 12 by the template 'for every input the law returns true; each argument reads behind the call as it read before'; 0 by the template 'total and deterministic' (their statements: YteknjhamekpfjaaTotals.lean).
  GIVEN WITH THE SEED: the statements are not yours to turn. If you find one false, say at which input.
  Laid BY PROGRAM, IN A SANDBOX (cutbox-rows.mjs): the forced cells as the released guide's own fill.sh prints them over the translation 9e348e3d35da1460… (all of the seat's roots in one cut). By AI agents, Wed Nov 11 2026. No macro, syntax, notation, axiom, sorry.
-/
import Derived.Test.YteknjhamekpfjaaChecked
import GoSem.Claim
import GoSem.ClaimJoined
import GoSem.ClaimMapViews
import Derived.JoinedTies
import Derived.KernelRfl
namespace Go.Proofs.Yteknjhamekpfjaa
/- THE CELL 'sum', in the pinned program and in every row, IS THE sha256 OF THE DUMP (.gsa) THAT YteknjhamekpfjaaProg.lean LOADS. Nothing in Lean hashes anything: it is a label: what it is worth is what the hold of that sum in a sandbox is worth. -/
noncomputable def Try.pinned : Pinned := { name := "yteknjhamekpfjaa", sum := "9e348e3d35da146078e90268c9dccafcf638c25048a559f054b01c421d2ecb73", checked := Try.checked }
namespace Rows
def none {H : Type} : Left H := { results := [], args := [] }

/-- 'cartouchelaw02.ModLaws': WHATEVER THE INPUT: true; the input reads as it did. -/
def modLawsSpec : ChangeSpec := { name := "modLaws", fn := fun _ => fun
  | [d1, d2] => { results := [.lit (.bool true)], args := [d1, d2] }
  | _ => none }
def modLawsRow : OpenClaim := { program := "yteknjhamekpfjaa", sum := "9e348e3d35da146078e90268c9dccafcf638c25048a559f054b01c421d2ecb73", func := "cartouche/cartouchelaw02.ModLaws", spec := "modLaws", inPlace := ["math/bits.Add64", "math/bits.Sub64"], apart := false }
def ModLawsSaid : Prop := modLawsRow.holds Try.pinned (OpenSpec.ofChange modLawsSpec)

/-- ITS FALSE NEIGHBOUR: 'it returns false'. Refute it at one input. -/
def modLawsWrong : ChangeSpec := { name := "modLaws", fn := fun _ => fun
  | [d1, d2] => { results := [.lit (.bool false)], args := [d1, d2] }
  | _ => none }
def ModLawsWrongFalsely : Prop := modLawsRow.holds Try.pinned (OpenSpec.ofChange modLawsWrong)

/-- 'cartouchelaw02.ModExponents': WHATEVER THE INPUT: true; the input reads as it did. -/
def modExponentsSpec : ChangeSpec := { name := "modExponents", fn := fun _ => fun
  | [d1, d2, d3] => { results := [.lit (.bool true)], args := [d1, d2, d3] }
  | _ => none }
def modExponentsRow : OpenClaim := { program := "yteknjhamekpfjaa", sum := "9e348e3d35da146078e90268c9dccafcf638c25048a559f054b01c421d2ecb73", func := "cartouche/cartouchelaw02.ModExponents", spec := "modExponents", inPlace := ["math/bits.Add64", "math/bits.Sub64"], apart := false }
def ModExponentsSaid : Prop := modExponentsRow.holds Try.pinned (OpenSpec.ofChange modExponentsSpec)

/-- ITS FALSE NEIGHBOUR: 'it returns false'. Refute it at one input. -/
def modExponentsWrong : ChangeSpec := { name := "modExponents", fn := fun _ => fun
  | [d1, d2, d3] => { results := [.lit (.bool false)], args := [d1, d2, d3] }
  | _ => none }
def ModExponentsWrongFalsely : Prop := modExponentsRow.holds Try.pinned (OpenSpec.ofChange modExponentsWrong)

/-- 'cartouchelaw02.ModPowers': WHATEVER THE INPUT: true; the input reads as it did. -/
def modPowersSpec : ChangeSpec := { name := "modPowers", fn := fun _ => fun
  | [d1, d2, d3] => { results := [.lit (.bool true)], args := [d1, d2, d3] }
  | _ => none }
def modPowersRow : OpenClaim := { program := "yteknjhamekpfjaa", sum := "9e348e3d35da146078e90268c9dccafcf638c25048a559f054b01c421d2ecb73", func := "cartouche/cartouchelaw02.ModPowers", spec := "modPowers", inPlace := ["math/bits.Add64", "math/bits.Sub64"], named := ["math/bits.divideError", "math/bits.overflowError"], apart := false }
def ModPowersSaid : Prop := modPowersRow.holds Try.pinned (OpenSpec.ofChange modPowersSpec)

/-- ITS FALSE NEIGHBOUR: 'it returns false'. Refute it at one input. -/
def modPowersWrong : ChangeSpec := { name := "modPowers", fn := fun _ => fun
  | [d1, d2, d3] => { results := [.lit (.bool false)], args := [d1, d2, d3] }
  | _ => none }
def ModPowersWrongFalsely : Prop := modPowersRow.holds Try.pinned (OpenSpec.ofChange modPowersWrong)

/-- 'cartouchelaw02.ModPrimes': WHATEVER THE INPUT: true; the input reads as it did. -/
def modPrimesSpec : ChangeSpec := { name := "modPrimes", fn := fun _ => fun
  | [d1, d2] => { results := [.lit (.bool true)], args := [d1, d2] }
  | _ => none }
def modPrimesRow : OpenClaim := { program := "yteknjhamekpfjaa", sum := "9e348e3d35da146078e90268c9dccafcf638c25048a559f054b01c421d2ecb73", func := "cartouche/cartouchelaw02.ModPrimes", spec := "modPrimes", inPlace := ["math/bits.Add64", "math/bits.Sub64"], named := ["math/bits.divideError", "math/bits.overflowError"], apart := false }
def ModPrimesSaid : Prop := modPrimesRow.holds Try.pinned (OpenSpec.ofChange modPrimesSpec)

/-- ITS FALSE NEIGHBOUR: 'it returns false'. Refute it at one input. -/
def modPrimesWrong : ChangeSpec := { name := "modPrimes", fn := fun _ => fun
  | [d1, d2] => { results := [.lit (.bool false)], args := [d1, d2] }
  | _ => none }
def ModPrimesWrongFalsely : Prop := modPrimesRow.holds Try.pinned (OpenSpec.ofChange modPrimesWrong)

/-- 'cartouchelaw02.ModNegates': WHATEVER THE INPUT: true; the input reads as it did. -/
def modNegatesSpec : ChangeSpec := { name := "modNegates", fn := fun _ => fun
  | [d1, d2, d3] => { results := [.lit (.bool true)], args := [d1, d2, d3] }
  | _ => none }
def modNegatesRow : OpenClaim := { program := "yteknjhamekpfjaa", sum := "9e348e3d35da146078e90268c9dccafcf638c25048a559f054b01c421d2ecb73", func := "cartouche/cartouchelaw02.ModNegates", spec := "modNegates", inPlace := ["math/bits.Add64", "math/bits.Sub64"], named := ["math/bits.divideError", "math/bits.overflowError"], apart := false }
def ModNegatesSaid : Prop := modNegatesRow.holds Try.pinned (OpenSpec.ofChange modNegatesSpec)

/-- ITS FALSE NEIGHBOUR: 'it returns false'. Refute it at one input. -/
def modNegatesWrong : ChangeSpec := { name := "modNegates", fn := fun _ => fun
  | [d1, d2, d3] => { results := [.lit (.bool false)], args := [d1, d2, d3] }
  | _ => none }
def ModNegatesWrongFalsely : Prop := modNegatesRow.holds Try.pinned (OpenSpec.ofChange modNegatesWrong)

/-- 'cartouchelaw02.ModSums': WHATEVER THE INPUT: true; the input reads as it did. -/
def modSumsSpec : ChangeSpec := { name := "modSums", fn := fun _ => fun
  | [d1, d2, d3] => { results := [.lit (.bool true)], args := [d1, d2, d3] }
  | _ => none }
def modSumsRow : OpenClaim := { program := "yteknjhamekpfjaa", sum := "9e348e3d35da146078e90268c9dccafcf638c25048a559f054b01c421d2ecb73", func := "cartouche/cartouchelaw02.ModSums", spec := "modSums", inPlace := ["math/bits.Add64", "math/bits.Sub64"], named := ["math/bits.divideError", "math/bits.overflowError"], apart := false }
def ModSumsSaid : Prop := modSumsRow.holds Try.pinned (OpenSpec.ofChange modSumsSpec)

/-- ITS FALSE NEIGHBOUR: 'it returns false'. Refute it at one input. -/
def modSumsWrong : ChangeSpec := { name := "modSums", fn := fun _ => fun
  | [d1, d2, d3] => { results := [.lit (.bool false)], args := [d1, d2, d3] }
  | _ => none }
def ModSumsWrongFalsely : Prop := modSumsRow.holds Try.pinned (OpenSpec.ofChange modSumsWrong)

/-- 'cartouchelaw02.ModReduces': WHATEVER THE INPUT: true; the input reads as it did. -/
def modReducesSpec : ChangeSpec := { name := "modReduces", fn := fun _ => fun
  | [d1, d2] => { results := [.lit (.bool true)], args := [d1, d2] }
  | _ => none }
def modReducesRow : OpenClaim := { program := "yteknjhamekpfjaa", sum := "9e348e3d35da146078e90268c9dccafcf638c25048a559f054b01c421d2ecb73", func := "cartouche/cartouchelaw02.ModReduces", spec := "modReduces", inPlace := ["math/bits.Add64", "math/bits.Sub64"], named := ["math/bits.divideError", "math/bits.overflowError"], apart := false }
def ModReducesSaid : Prop := modReducesRow.holds Try.pinned (OpenSpec.ofChange modReducesSpec)

/-- ITS FALSE NEIGHBOUR: 'it returns false'. Refute it at one input. -/
def modReducesWrong : ChangeSpec := { name := "modReduces", fn := fun _ => fun
  | [d1, d2] => { results := [.lit (.bool false)], args := [d1, d2] }
  | _ => none }
def ModReducesWrongFalsely : Prop := modReducesRow.holds Try.pinned (OpenSpec.ofChange modReducesWrong)

/-- 'cartouchelaw09.MontyMults': WHATEVER THE INPUT: true; the input reads as it did. -/
def montyMultsSpec : ChangeSpec := { name := "montyMults", fn := fun _ => fun
  | [d1, d2] => { results := [.lit (.bool true)], args := [d1, d2] }
  | _ => none }
def montyMultsRow : OpenClaim := { program := "yteknjhamekpfjaa", sum := "9e348e3d35da146078e90268c9dccafcf638c25048a559f054b01c421d2ecb73", func := "cartouche/cartouchelaw09.MontyMults", spec := "montyMults", inPlace := ["math/bits.Add64", "math/bits.Sub64"], apart := false }
def MontyMultsSaid : Prop := montyMultsRow.holds Try.pinned (OpenSpec.ofChange montyMultsSpec)

/-- ITS FALSE NEIGHBOUR: 'it returns false'. Refute it at one input. -/
def montyMultsWrong : ChangeSpec := { name := "montyMults", fn := fun _ => fun
  | [d1, d2] => { results := [.lit (.bool false)], args := [d1, d2] }
  | _ => none }
def MontyMultsWrongFalsely : Prop := montyMultsRow.holds Try.pinned (OpenSpec.ofChange montyMultsWrong)

/-- 'cartouchelaw09.MontyShares': WHATEVER THE INPUT: true; the input reads as it did. -/
def montySharesSpec : ChangeSpec := { name := "montyShares", fn := fun _ => fun
  | [d1, d2, d3] => { results := [.lit (.bool true)], args := [d1, d2, d3] }
  | _ => none }
def montySharesRow : OpenClaim := { program := "yteknjhamekpfjaa", sum := "9e348e3d35da146078e90268c9dccafcf638c25048a559f054b01c421d2ecb73", func := "cartouche/cartouchelaw09.MontyShares", spec := "montyShares", inPlace := ["math/bits.Add64", "math/bits.Sub64"], apart := false }
def MontySharesSaid : Prop := montySharesRow.holds Try.pinned (OpenSpec.ofChange montySharesSpec)

/-- ITS FALSE NEIGHBOUR: 'it returns false'. Refute it at one input. -/
def montySharesWrong : ChangeSpec := { name := "montyShares", fn := fun _ => fun
  | [d1, d2, d3] => { results := [.lit (.bool false)], args := [d1, d2, d3] }
  | _ => none }
def MontySharesWrongFalsely : Prop := montySharesRow.holds Try.pinned (OpenSpec.ofChange montySharesWrong)

/-- 'cartouchelaw09.MontyClamps': WHATEVER THE INPUT: true; the input reads as it did. -/
def montyClampsSpec : ChangeSpec := { name := "montyClamps", fn := fun _ => fun
  | [d1, d2] => { results := [.lit (.bool true)], args := [d1, d2] }
  | _ => none }
def montyClampsRow : OpenClaim := { program := "yteknjhamekpfjaa", sum := "9e348e3d35da146078e90268c9dccafcf638c25048a559f054b01c421d2ecb73", func := "cartouche/cartouchelaw09.MontyClamps", spec := "montyClamps", inPlace := ["math/bits.Add64", "math/bits.Sub64"], apart := false }
def MontyClampsSaid : Prop := montyClampsRow.holds Try.pinned (OpenSpec.ofChange montyClampsSpec)

/-- ITS FALSE NEIGHBOUR: 'it returns false'. Refute it at one input. -/
def montyClampsWrong : ChangeSpec := { name := "montyClamps", fn := fun _ => fun
  | [d1, d2] => { results := [.lit (.bool false)], args := [d1, d2] }
  | _ => none }
def MontyClampsWrongFalsely : Prop := montyClampsRow.holds Try.pinned (OpenSpec.ofChange montyClampsWrong)

/-- 'cartouchelaw09.MontyCommutes': WHATEVER THE INPUT: true; the input reads as it did. -/
def montyCommutesSpec : ChangeSpec := { name := "montyCommutes", fn := fun _ => fun
  | [d1, d2, d3] => { results := [.lit (.bool true)], args := [d1, d2, d3] }
  | _ => none }
def montyCommutesRow : OpenClaim := { program := "yteknjhamekpfjaa", sum := "9e348e3d35da146078e90268c9dccafcf638c25048a559f054b01c421d2ecb73", func := "cartouche/cartouchelaw09.MontyCommutes", spec := "montyCommutes", inPlace := ["math/bits.Add64", "math/bits.Sub64"], apart := false }
def MontyCommutesSaid : Prop := montyCommutesRow.holds Try.pinned (OpenSpec.ofChange montyCommutesSpec)

/-- ITS FALSE NEIGHBOUR: 'it returns false'. Refute it at one input. -/
def montyCommutesWrong : ChangeSpec := { name := "montyCommutes", fn := fun _ => fun
  | [d1, d2, d3] => { results := [.lit (.bool false)], args := [d1, d2, d3] }
  | _ => none }
def MontyCommutesWrongFalsely : Prop := montyCommutesRow.holds Try.pinned (OpenSpec.ofChange montyCommutesWrong)

/-- 'cartouchelaw09.MontyEdges': WHATEVER THE INPUT: true; the input reads as it did. -/
def montyEdgesSpec : ChangeSpec := { name := "montyEdges", fn := fun _ => fun
  | [d1, d2] => { results := [.lit (.bool true)], args := [d1, d2] }
  | _ => none }
def montyEdgesRow : OpenClaim := { program := "yteknjhamekpfjaa", sum := "9e348e3d35da146078e90268c9dccafcf638c25048a559f054b01c421d2ecb73", func := "cartouche/cartouchelaw09.MontyEdges", spec := "montyEdges", inPlace := ["math/bits.Add64", "math/bits.Sub64"], apart := false }
def MontyEdgesSaid : Prop := montyEdgesRow.holds Try.pinned (OpenSpec.ofChange montyEdgesSpec)

/-- ITS FALSE NEIGHBOUR: 'it returns false'. Refute it at one input. -/
def montyEdgesWrong : ChangeSpec := { name := "montyEdges", fn := fun _ => fun
  | [d1, d2] => { results := [.lit (.bool false)], args := [d1, d2] }
  | _ => none }
def MontyEdgesWrongFalsely : Prop := montyEdgesRow.holds Try.pinned (OpenSpec.ofChange montyEdgesWrong)

/- THE SECOND FORM. 'bulk': how many values and letters a reading holds, each counted each time it is reached (what is shared counts as often as it is met; a slice's spare places count too). A statement '..UptoSaid' is the law's where the arguments, and the package variables that the reading takes, are together of bulk at most 1048576: NARROWER than '..Said'. Prove '..Said' where nothing that the law and all that it calls make is longer than what came in: it says more and counts as full. Else prove '..UptoSaid'. A law counts once. -/
mutual
def uptoBulk {H : Type} : DataW H → Nat
  | .lit (.string bytes) => bytes.length + 1
  | .lit _ => 1
  | .nil => 1
  | .ptr d => uptoBulk d + 1
  | .slice elems spare => uptoBulkAll elems + uptoBulkAll spare + 1
  | .agg parts => uptoBulkAll parts + 1
  | .iface _ d => uptoBulk d + 1
  | .map entries => uptoBulkEntries entries + 1
  | .held _ => 1
def uptoBulkAll {H : Type} : List (DataW H) → Nat
  | [] => 0
  | d :: r => uptoBulk d + uptoBulkAll r
def uptoBulkEntries {H : Type} : List (Lit × DataW H) → Nat
  | [] => 0
  | x :: r => uptoBulkEntry x + uptoBulkEntries r
def uptoBulkEntry {H : Type} : Lit × DataW H → Nat
  | (.string bytes, d) => bytes.length + uptoBulk d + 1
  | (_, d) => uptoBulk d + 1
 end
def uptoSmall : (H : Type) → List (DataW H) → Bool := fun _ ds => decide (uptoBulkAll ds ≤ 1048576)
def OpenSpec.upto (s : _root_.Go.ChangeSpec) : _root_.Go.OpenSpec := { _root_.Go.OpenSpec.ofChange s with cond := some uptoSmall }

/-- 'cartouchelaw02.ModLaws', WHERE WHAT IT READS IS OF BULK AT MOST 1048576: true; the input reads as it did. -/
def modLawsUptoRow : OpenClaim := { program := "yteknjhamekpfjaa", sum := "9e348e3d35da146078e90268c9dccafcf638c25048a559f054b01c421d2ecb73", func := "cartouche/cartouchelaw02.ModLaws", spec := "modLaws", inPlace := ["math/bits.Add64", "math/bits.Sub64"], apart := false, narrowed := true }
def ModLawsUptoSaid : Prop := modLawsUptoRow.holds Try.pinned (OpenSpec.upto modLawsSpec)

/-- 'cartouchelaw02.ModExponents', WHERE WHAT IT READS IS OF BULK AT MOST 1048576: true; the input reads as it did. -/
def modExponentsUptoRow : OpenClaim := { program := "yteknjhamekpfjaa", sum := "9e348e3d35da146078e90268c9dccafcf638c25048a559f054b01c421d2ecb73", func := "cartouche/cartouchelaw02.ModExponents", spec := "modExponents", inPlace := ["math/bits.Add64", "math/bits.Sub64"], apart := false, narrowed := true }
def ModExponentsUptoSaid : Prop := modExponentsUptoRow.holds Try.pinned (OpenSpec.upto modExponentsSpec)

/-- 'cartouchelaw02.ModPowers', WHERE WHAT IT READS IS OF BULK AT MOST 1048576: true; the input reads as it did. -/
def modPowersUptoRow : OpenClaim := { program := "yteknjhamekpfjaa", sum := "9e348e3d35da146078e90268c9dccafcf638c25048a559f054b01c421d2ecb73", func := "cartouche/cartouchelaw02.ModPowers", spec := "modPowers", inPlace := ["math/bits.Add64", "math/bits.Sub64"], named := ["math/bits.divideError", "math/bits.overflowError"], apart := false, narrowed := true }
def ModPowersUptoSaid : Prop := modPowersUptoRow.holds Try.pinned (OpenSpec.upto modPowersSpec)

/-- 'cartouchelaw02.ModPrimes', WHERE WHAT IT READS IS OF BULK AT MOST 1048576: true; the input reads as it did. -/
def modPrimesUptoRow : OpenClaim := { program := "yteknjhamekpfjaa", sum := "9e348e3d35da146078e90268c9dccafcf638c25048a559f054b01c421d2ecb73", func := "cartouche/cartouchelaw02.ModPrimes", spec := "modPrimes", inPlace := ["math/bits.Add64", "math/bits.Sub64"], named := ["math/bits.divideError", "math/bits.overflowError"], apart := false, narrowed := true }
def ModPrimesUptoSaid : Prop := modPrimesUptoRow.holds Try.pinned (OpenSpec.upto modPrimesSpec)

/-- 'cartouchelaw02.ModNegates', WHERE WHAT IT READS IS OF BULK AT MOST 1048576: true; the input reads as it did. -/
def modNegatesUptoRow : OpenClaim := { program := "yteknjhamekpfjaa", sum := "9e348e3d35da146078e90268c9dccafcf638c25048a559f054b01c421d2ecb73", func := "cartouche/cartouchelaw02.ModNegates", spec := "modNegates", inPlace := ["math/bits.Add64", "math/bits.Sub64"], named := ["math/bits.divideError", "math/bits.overflowError"], apart := false, narrowed := true }
def ModNegatesUptoSaid : Prop := modNegatesUptoRow.holds Try.pinned (OpenSpec.upto modNegatesSpec)

/-- 'cartouchelaw02.ModSums', WHERE WHAT IT READS IS OF BULK AT MOST 1048576: true; the input reads as it did. -/
def modSumsUptoRow : OpenClaim := { program := "yteknjhamekpfjaa", sum := "9e348e3d35da146078e90268c9dccafcf638c25048a559f054b01c421d2ecb73", func := "cartouche/cartouchelaw02.ModSums", spec := "modSums", inPlace := ["math/bits.Add64", "math/bits.Sub64"], named := ["math/bits.divideError", "math/bits.overflowError"], apart := false, narrowed := true }
def ModSumsUptoSaid : Prop := modSumsUptoRow.holds Try.pinned (OpenSpec.upto modSumsSpec)

/-- 'cartouchelaw02.ModReduces', WHERE WHAT IT READS IS OF BULK AT MOST 1048576: true; the input reads as it did. -/
def modReducesUptoRow : OpenClaim := { program := "yteknjhamekpfjaa", sum := "9e348e3d35da146078e90268c9dccafcf638c25048a559f054b01c421d2ecb73", func := "cartouche/cartouchelaw02.ModReduces", spec := "modReduces", inPlace := ["math/bits.Add64", "math/bits.Sub64"], named := ["math/bits.divideError", "math/bits.overflowError"], apart := false, narrowed := true }
def ModReducesUptoSaid : Prop := modReducesUptoRow.holds Try.pinned (OpenSpec.upto modReducesSpec)

/-- 'cartouchelaw09.MontyMults', WHERE WHAT IT READS IS OF BULK AT MOST 1048576: true; the input reads as it did. -/
def montyMultsUptoRow : OpenClaim := { program := "yteknjhamekpfjaa", sum := "9e348e3d35da146078e90268c9dccafcf638c25048a559f054b01c421d2ecb73", func := "cartouche/cartouchelaw09.MontyMults", spec := "montyMults", inPlace := ["math/bits.Add64", "math/bits.Sub64"], apart := false, narrowed := true }
def MontyMultsUptoSaid : Prop := montyMultsUptoRow.holds Try.pinned (OpenSpec.upto montyMultsSpec)

/-- 'cartouchelaw09.MontyShares', WHERE WHAT IT READS IS OF BULK AT MOST 1048576: true; the input reads as it did. -/
def montySharesUptoRow : OpenClaim := { program := "yteknjhamekpfjaa", sum := "9e348e3d35da146078e90268c9dccafcf638c25048a559f054b01c421d2ecb73", func := "cartouche/cartouchelaw09.MontyShares", spec := "montyShares", inPlace := ["math/bits.Add64", "math/bits.Sub64"], apart := false, narrowed := true }
def MontySharesUptoSaid : Prop := montySharesUptoRow.holds Try.pinned (OpenSpec.upto montySharesSpec)

/-- 'cartouchelaw09.MontyClamps', WHERE WHAT IT READS IS OF BULK AT MOST 1048576: true; the input reads as it did. -/
def montyClampsUptoRow : OpenClaim := { program := "yteknjhamekpfjaa", sum := "9e348e3d35da146078e90268c9dccafcf638c25048a559f054b01c421d2ecb73", func := "cartouche/cartouchelaw09.MontyClamps", spec := "montyClamps", inPlace := ["math/bits.Add64", "math/bits.Sub64"], apart := false, narrowed := true }
def MontyClampsUptoSaid : Prop := montyClampsUptoRow.holds Try.pinned (OpenSpec.upto montyClampsSpec)

/-- 'cartouchelaw09.MontyCommutes', WHERE WHAT IT READS IS OF BULK AT MOST 1048576: true; the input reads as it did. -/
def montyCommutesUptoRow : OpenClaim := { program := "yteknjhamekpfjaa", sum := "9e348e3d35da146078e90268c9dccafcf638c25048a559f054b01c421d2ecb73", func := "cartouche/cartouchelaw09.MontyCommutes", spec := "montyCommutes", inPlace := ["math/bits.Add64", "math/bits.Sub64"], apart := false, narrowed := true }
def MontyCommutesUptoSaid : Prop := montyCommutesUptoRow.holds Try.pinned (OpenSpec.upto montyCommutesSpec)

/-- 'cartouchelaw09.MontyEdges', WHERE WHAT IT READS IS OF BULK AT MOST 1048576: true; the input reads as it did. -/
def montyEdgesUptoRow : OpenClaim := { program := "yteknjhamekpfjaa", sum := "9e348e3d35da146078e90268c9dccafcf638c25048a559f054b01c421d2ecb73", func := "cartouche/cartouchelaw09.MontyEdges", spec := "montyEdges", inPlace := ["math/bits.Add64", "math/bits.Sub64"], apart := false, narrowed := true }
def MontyEdgesUptoSaid : Prop := montyEdgesUptoRow.holds Try.pinned (OpenSpec.upto montyEdgesSpec)

end Rows
end Go.Proofs.Yteknjhamekpfjaa
