/-
  No cell of these rows narrows 'for every input' (looked for: loops, veiled, ifaces, maps, wideKeys, modest, calm, conditions, laid).
  DERIVED. THE GIVEN ROWS OF THIS SEAT. 12 by the template 'for every input the law returns true; each argument reads behind the call as it read before'; 0 by the template 'total and deterministic' (their statements: YtihmppdnglfjnaaTotals.lean).
  GIVEN WITH THE SEED: the statements are not yours to turn. If you find one false, say at which input.
  Laid BY PROGRAM, IN A SANDBOX (cutbox-rows.mjs): the forced cells as the released guide's own fill.sh prints them over the translation f60240e9cb08f07c… (all of the seat's roots in one cut). By AI agents, Wed Nov 11 2026. No macro, syntax, notation, axiom, sorry.
-/
import Derived.Test.YtihmppdnglfjnaaChecked
import GoSem.Claim
import GoSem.ClaimJoined
import GoSem.ClaimMapViews
import Derived.JoinedTies
import Derived.KernelRfl
namespace Go.Proofs.Ytihmppdnglfjnaa
/- THE CELL 'sum', in the pinned program and in every row, IS THE sha256 OF THE DUMP (.gsa) THAT YtihmppdnglfjnaaProg.lean LOADS. Nothing in Lean hashes anything: it is a label: what it is worth is what the hold of that sum in a sandbox is worth. -/
noncomputable def Try.pinned : Pinned := { name := "ytihmppdnglfjnaa", sum := "f60240e9cb08f07caadc03dd2f608b79b032573d77c66f91d3dfb301b02930ce", checked := Try.checked }
namespace Rows
def none {H : Type} : Left H := { results := [], args := [] }

/-- 'laws.FnExactSameSounding': WHATEVER THE INPUT: true; the input reads as it did. -/
def fnExactSameSoundingSpec : ChangeSpec := { name := "fnExactSameSounding", fn := fun _ => fun
  | [d1, d2] => { results := [.lit (.bool true)], args := [d1, d2] }
  | _ => none }
def fnExactSameSoundingRow : OpenClaim := { program := "ytihmppdnglfjnaa", sum := "f60240e9cb08f07caadc03dd2f608b79b032573d77c66f91d3dfb301b02930ce", func := "loop.example/g01224/laws.FnExactSameSounding", spec := "fnExactSameSounding", inPlace := ["math.Float32bits"], unfollowed := true, recurses := true, apart := false }
def FnExactSameSoundingSaid : Prop := fnExactSameSoundingRow.holds Try.pinned (OpenSpec.ofChange fnExactSameSoundingSpec)

/-- ITS FALSE NEIGHBOUR: 'it returns false'. Refute it at one input. -/
def fnExactSameSoundingWrong : ChangeSpec := { name := "fnExactSameSounding", fn := fun _ => fun
  | [d1, d2] => { results := [.lit (.bool false)], args := [d1, d2] }
  | _ => none }
def FnExactSameSoundingWrongFalsely : Prop := fnExactSameSoundingRow.holds Try.pinned (OpenSpec.ofChange fnExactSameSoundingWrong)

/-- 'laws.FnExactValidSounding': WHATEVER THE INPUT: true; the input reads as it did. -/
def fnExactValidSoundingSpec : ChangeSpec := { name := "fnExactValidSounding", fn := fun _ => fun
  | [d] => { results := [.lit (.bool true)], args := [d] }
  | _ => none }
def fnExactValidSoundingRow : OpenClaim := { program := "ytihmppdnglfjnaa", sum := "f60240e9cb08f07caadc03dd2f608b79b032573d77c66f91d3dfb301b02930ce", func := "loop.example/g01224/laws.FnExactValidSounding", spec := "fnExactValidSounding", inPlace := ["math.Float32bits"], apart := false }
def FnExactValidSoundingSaid : Prop := fnExactValidSoundingRow.holds Try.pinned (OpenSpec.ofChange fnExactValidSoundingSpec)

/-- ITS FALSE NEIGHBOUR: 'it returns false'. Refute it at one input. -/
def fnExactValidSoundingWrong : ChangeSpec := { name := "fnExactValidSounding", fn := fun _ => fun
  | [d] => { results := [.lit (.bool false)], args := [d] }
  | _ => none }
def FnExactValidSoundingWrongFalsely : Prop := fnExactValidSoundingRow.holds Try.pinned (OpenSpec.ofChange fnExactValidSoundingWrong)

/-- 'laws.FnExactEvenSounding': WHATEVER THE INPUT: true; the input reads as it did. -/
def fnExactEvenSoundingSpec : ChangeSpec := { name := "fnExactEvenSounding", fn := fun _ => fun
  | [d1, d2, d3, d4] => { results := [.lit (.bool true)], args := [d1, d2, d3, d4] }
  | _ => none }
def fnExactEvenSoundingRow : OpenClaim := { program := "ytihmppdnglfjnaa", sum := "f60240e9cb08f07caadc03dd2f608b79b032573d77c66f91d3dfb301b02930ce", func := "loop.example/g01224/laws.FnExactEvenSounding", spec := "fnExactEvenSounding", inPlace := ["math.Float32bits"], apart := false }
def FnExactEvenSoundingSaid : Prop := fnExactEvenSoundingRow.holds Try.pinned (OpenSpec.ofChange fnExactEvenSoundingSpec)

/-- ITS FALSE NEIGHBOUR: 'it returns false'. Refute it at one input. -/
def fnExactEvenSoundingWrong : ChangeSpec := { name := "fnExactEvenSounding", fn := fun _ => fun
  | [d1, d2, d3, d4] => { results := [.lit (.bool false)], args := [d1, d2, d3, d4] }
  | _ => none }
def FnExactEvenSoundingWrongFalsely : Prop := fnExactEvenSoundingRow.holds Try.pinned (OpenSpec.ofChange fnExactEvenSoundingWrong)

/-- 'laws.FnExactFirstUnsteady': WHATEVER THE INPUT: true; the input reads as it did. -/
def fnExactFirstUnsteadySpec : ChangeSpec := { name := "fnExactFirstUnsteady", fn := fun _ => fun
  | [d] => { results := [.lit (.bool true)], args := [d] }
  | _ => none }
def fnExactFirstUnsteadyRow : OpenClaim := { program := "ytihmppdnglfjnaa", sum := "f60240e9cb08f07caadc03dd2f608b79b032573d77c66f91d3dfb301b02930ce", func := "loop.example/g01224/laws.FnExactFirstUnsteady", spec := "fnExactFirstUnsteady", inPlace := ["math.Float32bits"], apart := false }
def FnExactFirstUnsteadySaid : Prop := fnExactFirstUnsteadyRow.holds Try.pinned (OpenSpec.ofChange fnExactFirstUnsteadySpec)

/-- ITS FALSE NEIGHBOUR: 'it returns false'. Refute it at one input. -/
def fnExactFirstUnsteadyWrong : ChangeSpec := { name := "fnExactFirstUnsteady", fn := fun _ => fun
  | [d] => { results := [.lit (.bool false)], args := [d] }
  | _ => none }
def FnExactFirstUnsteadyWrongFalsely : Prop := fnExactFirstUnsteadyRow.holds Try.pinned (OpenSpec.ofChange fnExactFirstUnsteadyWrong)

/-- 'laws.FnExactHeightOfHeat': WHATEVER THE INPUT: true; the input reads as it did. -/
def fnExactHeightOfHeatSpec : ChangeSpec := { name := "fnExactHeightOfHeat", fn := fun _ => fun
  | [d1, d2] => { results := [.lit (.bool true)], args := [d1, d2] }
  | _ => none }
def fnExactHeightOfHeatRow : OpenClaim := { program := "ytihmppdnglfjnaa", sum := "f60240e9cb08f07caadc03dd2f608b79b032573d77c66f91d3dfb301b02930ce", func := "loop.example/g01224/laws.FnExactHeightOfHeat", spec := "fnExactHeightOfHeat", inPlace := ["math.Float32bits"], apart := false }
def FnExactHeightOfHeatSaid : Prop := fnExactHeightOfHeatRow.holds Try.pinned (OpenSpec.ofChange fnExactHeightOfHeatSpec)

/-- ITS FALSE NEIGHBOUR: 'it returns false'. Refute it at one input. -/
def fnExactHeightOfHeatWrong : ChangeSpec := { name := "fnExactHeightOfHeat", fn := fun _ => fun
  | [d1, d2] => { results := [.lit (.bool false)], args := [d1, d2] }
  | _ => none }
def FnExactHeightOfHeatWrongFalsely : Prop := fnExactHeightOfHeatRow.holds Try.pinned (OpenSpec.ofChange fnExactHeightOfHeatWrong)

/-- 'laws.FnExactAirAt': WHATEVER THE INPUT: true; the input reads as it did. -/
def fnExactAirAtSpec : ChangeSpec := { name := "fnExactAirAt", fn := fun _ => fun
  | [d1, d2] => { results := [.lit (.bool true)], args := [d1, d2] }
  | _ => none }
def fnExactAirAtRow : OpenClaim := { program := "ytihmppdnglfjnaa", sum := "f60240e9cb08f07caadc03dd2f608b79b032573d77c66f91d3dfb301b02930ce", func := "loop.example/g01224/laws.FnExactAirAt", spec := "fnExactAirAt", inPlace := ["math.Float32bits"], unfollowed := true, recurses := true, apart := false }
def FnExactAirAtSaid : Prop := fnExactAirAtRow.holds Try.pinned (OpenSpec.ofChange fnExactAirAtSpec)

/-- ITS FALSE NEIGHBOUR: 'it returns false'. Refute it at one input. -/
def fnExactAirAtWrong : ChangeSpec := { name := "fnExactAirAt", fn := fun _ => fun
  | [d1, d2] => { results := [.lit (.bool false)], args := [d1, d2] }
  | _ => none }
def FnExactAirAtWrongFalsely : Prop := fnExactAirAtRow.holds Try.pinned (OpenSpec.ofChange fnExactAirAtWrong)

/-- 'laws.FnExactWarmLowest': WHATEVER THE INPUT: true; the input reads as it did. -/
def fnExactWarmLowestSpec : ChangeSpec := { name := "fnExactWarmLowest", fn := fun _ => fun
  | [d1, d2] => { results := [.lit (.bool true)], args := [d1, d2] }
  | _ => none }
def fnExactWarmLowestRow : OpenClaim := { program := "ytihmppdnglfjnaa", sum := "f60240e9cb08f07caadc03dd2f608b79b032573d77c66f91d3dfb301b02930ce", func := "loop.example/g01224/laws.FnExactWarmLowest", spec := "fnExactWarmLowest", inPlace := ["math.Float32bits"], apart := false }
def FnExactWarmLowestSaid : Prop := fnExactWarmLowestRow.holds Try.pinned (OpenSpec.ofChange fnExactWarmLowestSpec)

/-- ITS FALSE NEIGHBOUR: 'it returns false'. Refute it at one input. -/
def fnExactWarmLowestWrong : ChangeSpec := { name := "fnExactWarmLowest", fn := fun _ => fun
  | [d1, d2] => { results := [.lit (.bool false)], args := [d1, d2] }
  | _ => none }
def FnExactWarmLowestWrongFalsely : Prop := fnExactWarmLowestRow.holds Try.pinned (OpenSpec.ofChange fnExactWarmLowestWrong)

/-- 'laws.FnExactLiftOf': WHATEVER THE INPUT: true; the input reads as it did. -/
def fnExactLiftOfSpec : ChangeSpec := { name := "fnExactLiftOf", fn := fun _ => fun
  | [d1, d2] => { results := [.lit (.bool true)], args := [d1, d2] }
  | _ => none }
def fnExactLiftOfRow : OpenClaim := { program := "ytihmppdnglfjnaa", sum := "f60240e9cb08f07caadc03dd2f608b79b032573d77c66f91d3dfb301b02930ce", func := "loop.example/g01224/laws.FnExactLiftOf", spec := "fnExactLiftOf", inPlace := ["math.Float32bits"], unfollowed := true, recurses := true, apart := false }
def FnExactLiftOfSaid : Prop := fnExactLiftOfRow.holds Try.pinned (OpenSpec.ofChange fnExactLiftOfSpec)

/-- ITS FALSE NEIGHBOUR: 'it returns false'. Refute it at one input. -/
def fnExactLiftOfWrong : ChangeSpec := { name := "fnExactLiftOf", fn := fun _ => fun
  | [d1, d2] => { results := [.lit (.bool false)], args := [d1, d2] }
  | _ => none }
def FnExactLiftOfWrongFalsely : Prop := fnExactLiftOfRow.holds Try.pinned (OpenSpec.ofChange fnExactLiftOfWrong)

/-- 'laws.FnExactVapourAbove': WHATEVER THE INPUT: true; the input reads as it did. -/
def fnExactVapourAboveSpec : ChangeSpec := { name := "fnExactVapourAbove", fn := fun _ => fun
  | [d1, d2] => { results := [.lit (.bool true)], args := [d1, d2] }
  | _ => none }
def fnExactVapourAboveRow : OpenClaim := { program := "ytihmppdnglfjnaa", sum := "f60240e9cb08f07caadc03dd2f608b79b032573d77c66f91d3dfb301b02930ce", func := "loop.example/g01224/laws.FnExactVapourAbove", spec := "fnExactVapourAbove", inPlace := ["math.Float32bits"], unfollowed := true, recurses := true, apart := false }
def FnExactVapourAboveSaid : Prop := fnExactVapourAboveRow.holds Try.pinned (OpenSpec.ofChange fnExactVapourAboveSpec)

/-- ITS FALSE NEIGHBOUR: 'it returns false'. Refute it at one input. -/
def fnExactVapourAboveWrong : ChangeSpec := { name := "fnExactVapourAbove", fn := fun _ => fun
  | [d1, d2] => { results := [.lit (.bool false)], args := [d1, d2] }
  | _ => none }
def FnExactVapourAboveWrongFalsely : Prop := fnExactVapourAboveRow.holds Try.pinned (OpenSpec.ofChange fnExactVapourAboveWrong)

/-- 'laws.FnExactSteadySounding': WHATEVER THE INPUT: true; the input reads as it did. -/
def fnExactSteadySoundingSpec : ChangeSpec := { name := "fnExactSteadySounding", fn := fun _ => fun
  | [d] => { results := [.lit (.bool true)], args := [d] }
  | _ => none }
def fnExactSteadySoundingRow : OpenClaim := { program := "ytihmppdnglfjnaa", sum := "f60240e9cb08f07caadc03dd2f608b79b032573d77c66f91d3dfb301b02930ce", func := "loop.example/g01224/laws.FnExactSteadySounding", spec := "fnExactSteadySounding", inPlace := ["math.Float32bits"], apart := false }
def FnExactSteadySoundingSaid : Prop := fnExactSteadySoundingRow.holds Try.pinned (OpenSpec.ofChange fnExactSteadySoundingSpec)

/-- ITS FALSE NEIGHBOUR: 'it returns false'. Refute it at one input. -/
def fnExactSteadySoundingWrong : ChangeSpec := { name := "fnExactSteadySounding", fn := fun _ => fun
  | [d] => { results := [.lit (.bool false)], args := [d] }
  | _ => none }
def FnExactSteadySoundingWrongFalsely : Prop := fnExactSteadySoundingRow.holds Try.pinned (OpenSpec.ofChange fnExactSteadySoundingWrong)

/-- 'laws.FnExactRiseIn': WHATEVER THE INPUT: true; the input reads as it did. -/
def fnExactRiseInSpec : ChangeSpec := { name := "fnExactRiseIn", fn := fun _ => fun
  | [d1, d2, d3, d4, d5] => { results := [.lit (.bool true)], args := [d1, d2, d3, d4, d5] }
  | _ => none }
def fnExactRiseInRow : OpenClaim := { program := "ytihmppdnglfjnaa", sum := "f60240e9cb08f07caadc03dd2f608b79b032573d77c66f91d3dfb301b02930ce", func := "loop.example/g01224/laws.FnExactRiseIn", spec := "fnExactRiseIn", inPlace := ["math.Float32bits", "math.archFloor", "math.Float64bits", "math.Float64frombits", "math.archTrunc"], unfollowed := true, recurses := true, apart := false }
def FnExactRiseInSaid : Prop := fnExactRiseInRow.holds Try.pinned (OpenSpec.ofChange fnExactRiseInSpec)

/-- ITS FALSE NEIGHBOUR: 'it returns false'. Refute it at one input. -/
def fnExactRiseInWrong : ChangeSpec := { name := "fnExactRiseIn", fn := fun _ => fun
  | [d1, d2, d3, d4, d5] => { results := [.lit (.bool false)], args := [d1, d2, d3, d4, d5] }
  | _ => none }
def FnExactRiseInWrongFalsely : Prop := fnExactRiseInRow.holds Try.pinned (OpenSpec.ofChange fnExactRiseInWrong)

/-- 'laws.FnSteady': WHATEVER THE INPUT: true; the input reads as it did. -/
def fnSteadySpec : ChangeSpec := { name := "fnSteady", fn := fun _ => fun
  | [d1, d2] => { results := [.lit (.bool true)], args := [d1, d2] }
  | _ => none }
def fnSteadyRow : OpenClaim := { program := "ytihmppdnglfjnaa", sum := "f60240e9cb08f07caadc03dd2f608b79b032573d77c66f91d3dfb301b02930ce", func := "loop.example/g01224/laws.FnSteady", spec := "fnSteady", inPlace := ["math.archFloor", "math.Float64bits", "math.Float64frombits", "math.archTrunc", "math.Float32bits"], unfollowed := true, recurses := true, apart := false }
def FnSteadySaid : Prop := fnSteadyRow.holds Try.pinned (OpenSpec.ofChange fnSteadySpec)

/-- ITS FALSE NEIGHBOUR: 'it returns false'. Refute it at one input. -/
def fnSteadyWrong : ChangeSpec := { name := "fnSteady", fn := fun _ => fun
  | [d1, d2] => { results := [.lit (.bool false)], args := [d1, d2] }
  | _ => none }
def FnSteadyWrongFalsely : Prop := fnSteadyRow.holds Try.pinned (OpenSpec.ofChange fnSteadyWrong)

/- THE SECOND FORM. 'bulk': how many values and letters a reading holds, each counted each time it is reached (what is shared counts as often as it is met; a slice's spare places count too). A statement '..UptoSaid' is the law's where the arguments, and the package variables that the reading takes, are together of bulk at most 1048576: NARROWER than '..Said'. Prove '..Said' where nothing that the law and all that it calls make is longer than what came in: it says more and counts as full. Else prove '..UptoSaid'. A law counts once. -/
mutual
def uptoBulk {H : Type} : DataW H → Nat
  | .lit (.string bytes) => bytes.length + 1
  | .lit _ => 1
  | .nil => 1
  | .ptr d => uptoBulk d + 1
  | .slice elems spare => uptoBulkAll elems + uptoBulkAll spare + 1
  | .agg parts => uptoBulkAll parts + 1
  | .iface _ d => uptoBulk d + 1
  | .map entries => uptoBulkEntries entries + 1
  | .held _ => 1
def uptoBulkAll {H : Type} : List (DataW H) → Nat
  | [] => 0
  | d :: r => uptoBulk d + uptoBulkAll r
def uptoBulkEntries {H : Type} : List (Lit × DataW H) → Nat
  | [] => 0
  | x :: r => uptoBulkEntry x + uptoBulkEntries r
def uptoBulkEntry {H : Type} : Lit × DataW H → Nat
  | (.string bytes, d) => bytes.length + uptoBulk d + 1
  | (_, d) => uptoBulk d + 1
 end
def uptoSmall : (H : Type) → List (DataW H) → Bool := fun _ ds => decide (uptoBulkAll ds ≤ 1048576)
def OpenSpec.upto (s : _root_.Go.ChangeSpec) : _root_.Go.OpenSpec := { _root_.Go.OpenSpec.ofChange s with cond := some uptoSmall }

/-- 'laws.FnExactSameSounding', WHERE WHAT IT READS IS OF BULK AT MOST 1048576: true; the input reads as it did. -/
def fnExactSameSoundingUptoRow : OpenClaim := { program := "ytihmppdnglfjnaa", sum := "f60240e9cb08f07caadc03dd2f608b79b032573d77c66f91d3dfb301b02930ce", func := "loop.example/g01224/laws.FnExactSameSounding", spec := "fnExactSameSounding", inPlace := ["math.Float32bits"], unfollowed := true, recurses := true, apart := false, narrowed := true }
def FnExactSameSoundingUptoSaid : Prop := fnExactSameSoundingUptoRow.holds Try.pinned (OpenSpec.upto fnExactSameSoundingSpec)

/-- 'laws.FnExactValidSounding', WHERE WHAT IT READS IS OF BULK AT MOST 1048576: true; the input reads as it did. -/
def fnExactValidSoundingUptoRow : OpenClaim := { program := "ytihmppdnglfjnaa", sum := "f60240e9cb08f07caadc03dd2f608b79b032573d77c66f91d3dfb301b02930ce", func := "loop.example/g01224/laws.FnExactValidSounding", spec := "fnExactValidSounding", inPlace := ["math.Float32bits"], apart := false, narrowed := true }
def FnExactValidSoundingUptoSaid : Prop := fnExactValidSoundingUptoRow.holds Try.pinned (OpenSpec.upto fnExactValidSoundingSpec)

/-- 'laws.FnExactEvenSounding', WHERE WHAT IT READS IS OF BULK AT MOST 1048576: true; the input reads as it did. -/
def fnExactEvenSoundingUptoRow : OpenClaim := { program := "ytihmppdnglfjnaa", sum := "f60240e9cb08f07caadc03dd2f608b79b032573d77c66f91d3dfb301b02930ce", func := "loop.example/g01224/laws.FnExactEvenSounding", spec := "fnExactEvenSounding", inPlace := ["math.Float32bits"], apart := false, narrowed := true }
def FnExactEvenSoundingUptoSaid : Prop := fnExactEvenSoundingUptoRow.holds Try.pinned (OpenSpec.upto fnExactEvenSoundingSpec)

/-- 'laws.FnExactFirstUnsteady', WHERE WHAT IT READS IS OF BULK AT MOST 1048576: true; the input reads as it did. -/
def fnExactFirstUnsteadyUptoRow : OpenClaim := { program := "ytihmppdnglfjnaa", sum := "f60240e9cb08f07caadc03dd2f608b79b032573d77c66f91d3dfb301b02930ce", func := "loop.example/g01224/laws.FnExactFirstUnsteady", spec := "fnExactFirstUnsteady", inPlace := ["math.Float32bits"], apart := false, narrowed := true }
def FnExactFirstUnsteadyUptoSaid : Prop := fnExactFirstUnsteadyUptoRow.holds Try.pinned (OpenSpec.upto fnExactFirstUnsteadySpec)

/-- 'laws.FnExactHeightOfHeat', WHERE WHAT IT READS IS OF BULK AT MOST 1048576: true; the input reads as it did. -/
def fnExactHeightOfHeatUptoRow : OpenClaim := { program := "ytihmppdnglfjnaa", sum := "f60240e9cb08f07caadc03dd2f608b79b032573d77c66f91d3dfb301b02930ce", func := "loop.example/g01224/laws.FnExactHeightOfHeat", spec := "fnExactHeightOfHeat", inPlace := ["math.Float32bits"], apart := false, narrowed := true }
def FnExactHeightOfHeatUptoSaid : Prop := fnExactHeightOfHeatUptoRow.holds Try.pinned (OpenSpec.upto fnExactHeightOfHeatSpec)

/-- 'laws.FnExactAirAt', WHERE WHAT IT READS IS OF BULK AT MOST 1048576: true; the input reads as it did. -/
def fnExactAirAtUptoRow : OpenClaim := { program := "ytihmppdnglfjnaa", sum := "f60240e9cb08f07caadc03dd2f608b79b032573d77c66f91d3dfb301b02930ce", func := "loop.example/g01224/laws.FnExactAirAt", spec := "fnExactAirAt", inPlace := ["math.Float32bits"], unfollowed := true, recurses := true, apart := false, narrowed := true }
def FnExactAirAtUptoSaid : Prop := fnExactAirAtUptoRow.holds Try.pinned (OpenSpec.upto fnExactAirAtSpec)

/-- 'laws.FnExactWarmLowest', WHERE WHAT IT READS IS OF BULK AT MOST 1048576: true; the input reads as it did. -/
def fnExactWarmLowestUptoRow : OpenClaim := { program := "ytihmppdnglfjnaa", sum := "f60240e9cb08f07caadc03dd2f608b79b032573d77c66f91d3dfb301b02930ce", func := "loop.example/g01224/laws.FnExactWarmLowest", spec := "fnExactWarmLowest", inPlace := ["math.Float32bits"], apart := false, narrowed := true }
def FnExactWarmLowestUptoSaid : Prop := fnExactWarmLowestUptoRow.holds Try.pinned (OpenSpec.upto fnExactWarmLowestSpec)

/-- 'laws.FnExactLiftOf', WHERE WHAT IT READS IS OF BULK AT MOST 1048576: true; the input reads as it did. -/
def fnExactLiftOfUptoRow : OpenClaim := { program := "ytihmppdnglfjnaa", sum := "f60240e9cb08f07caadc03dd2f608b79b032573d77c66f91d3dfb301b02930ce", func := "loop.example/g01224/laws.FnExactLiftOf", spec := "fnExactLiftOf", inPlace := ["math.Float32bits"], unfollowed := true, recurses := true, apart := false, narrowed := true }
def FnExactLiftOfUptoSaid : Prop := fnExactLiftOfUptoRow.holds Try.pinned (OpenSpec.upto fnExactLiftOfSpec)

/-- 'laws.FnExactVapourAbove', WHERE WHAT IT READS IS OF BULK AT MOST 1048576: true; the input reads as it did. -/
def fnExactVapourAboveUptoRow : OpenClaim := { program := "ytihmppdnglfjnaa", sum := "f60240e9cb08f07caadc03dd2f608b79b032573d77c66f91d3dfb301b02930ce", func := "loop.example/g01224/laws.FnExactVapourAbove", spec := "fnExactVapourAbove", inPlace := ["math.Float32bits"], unfollowed := true, recurses := true, apart := false, narrowed := true }
def FnExactVapourAboveUptoSaid : Prop := fnExactVapourAboveUptoRow.holds Try.pinned (OpenSpec.upto fnExactVapourAboveSpec)

/-- 'laws.FnExactSteadySounding', WHERE WHAT IT READS IS OF BULK AT MOST 1048576: true; the input reads as it did. -/
def fnExactSteadySoundingUptoRow : OpenClaim := { program := "ytihmppdnglfjnaa", sum := "f60240e9cb08f07caadc03dd2f608b79b032573d77c66f91d3dfb301b02930ce", func := "loop.example/g01224/laws.FnExactSteadySounding", spec := "fnExactSteadySounding", inPlace := ["math.Float32bits"], apart := false, narrowed := true }
def FnExactSteadySoundingUptoSaid : Prop := fnExactSteadySoundingUptoRow.holds Try.pinned (OpenSpec.upto fnExactSteadySoundingSpec)

/-- 'laws.FnExactRiseIn', WHERE WHAT IT READS IS OF BULK AT MOST 1048576: true; the input reads as it did. -/
def fnExactRiseInUptoRow : OpenClaim := { program := "ytihmppdnglfjnaa", sum := "f60240e9cb08f07caadc03dd2f608b79b032573d77c66f91d3dfb301b02930ce", func := "loop.example/g01224/laws.FnExactRiseIn", spec := "fnExactRiseIn", inPlace := ["math.Float32bits", "math.archFloor", "math.Float64bits", "math.Float64frombits", "math.archTrunc"], unfollowed := true, recurses := true, apart := false, narrowed := true }
def FnExactRiseInUptoSaid : Prop := fnExactRiseInUptoRow.holds Try.pinned (OpenSpec.upto fnExactRiseInSpec)

/-- 'laws.FnSteady', WHERE WHAT IT READS IS OF BULK AT MOST 1048576: true; the input reads as it did. -/
def fnSteadyUptoRow : OpenClaim := { program := "ytihmppdnglfjnaa", sum := "f60240e9cb08f07caadc03dd2f608b79b032573d77c66f91d3dfb301b02930ce", func := "loop.example/g01224/laws.FnSteady", spec := "fnSteady", inPlace := ["math.archFloor", "math.Float64bits", "math.Float64frombits", "math.archTrunc", "math.Float32bits"], unfollowed := true, recurses := true, apart := false, narrowed := true }
def FnSteadyUptoSaid : Prop := fnSteadyUptoRow.holds Try.pinned (OpenSpec.upto fnSteadySpec)

end Rows
end Go.Proofs.Ytihmppdnglfjnaa
