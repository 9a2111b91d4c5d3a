/-
  No cell of these rows narrows 'for every input' (looked for: loops, veiled, ifaces, maps, wideKeys, modest, calm, conditions, laid).
  DERIVED. THE GIVEN ROWS OF THIS SEAT. 9 by the template 'for every input the law returns true; each argument reads behind the call as it read before'; 0 by the template 'total and deterministic' (their statements: YtimbfpcjnbnpmaaTotals.lean).
  GIVEN WITH THE SEED: the statements are not yours to turn. If you find one false, say at which input.
  Laid BY PROGRAM, IN A SANDBOX (cutbox-rows.mjs): the forced cells as the released guide's own fill.sh prints them over the translation ce1aea15b21265ee… (all of the seat's roots in one cut). By AI agents, Wed Nov 11 2026. No macro, syntax, notation, axiom, sorry.
-/
import Derived.Test.YtimbfpcjnbnpmaaChecked
import GoSem.Claim
import GoSem.ClaimJoined
import GoSem.ClaimMapViews
import Derived.JoinedTies
import Derived.KernelRfl
namespace Go.Proofs.Ytimbfpcjnbnpmaa
/- THE CELL 'sum', in the pinned program and in every row, IS THE sha256 OF THE DUMP (.gsa) THAT YtimbfpcjnbnpmaaProg.lean LOADS. Nothing in Lean hashes anything: it is a label: what it is worth is what the hold of that sum in a sandbox is worth. -/
noncomputable def Try.pinned : Pinned := { name := "ytimbfpcjnbnpmaa", sum := "ce1aea15b21265ee95c0c8858a14694d662116a8781277405f089413fb669aea", checked := Try.checked }
namespace Rows
def none {H : Type} : Left H := { results := [], args := [] }

/-- 'laws.FnExactSameParcel': WHATEVER THE INPUT: true; the input reads as it did. -/
def fnExactSameParcelSpec : ChangeSpec := { name := "fnExactSameParcel", fn := fun _ => fun
  | [d1, d2] => { results := [.lit (.bool true)], args := [d1, d2] }
  | _ => none }
def fnExactSameParcelRow : OpenClaim := { program := "ytimbfpcjnbnpmaa", sum := "ce1aea15b21265ee95c0c8858a14694d662116a8781277405f089413fb669aea", func := "loop.example/g01224/laws.FnExactSameParcel", spec := "fnExactSameParcel", inPlace := ["math.Float32bits"], apart := false }
def FnExactSameParcelSaid : Prop := fnExactSameParcelRow.holds Try.pinned (OpenSpec.ofChange fnExactSameParcelSpec)

/-- ITS FALSE NEIGHBOUR: 'it returns false'. Refute it at one input. -/
def fnExactSameParcelWrong : ChangeSpec := { name := "fnExactSameParcel", fn := fun _ => fun
  | [d1, d2] => { results := [.lit (.bool false)], args := [d1, d2] }
  | _ => none }
def FnExactSameParcelWrongFalsely : Prop := fnExactSameParcelRow.holds Try.pinned (OpenSpec.ofChange fnExactSameParcelWrong)

/-- 'laws.FnExactValidParcel': WHATEVER THE INPUT: true; the input reads as it did. -/
def fnExactValidParcelSpec : ChangeSpec := { name := "fnExactValidParcel", fn := fun _ => fun
  | [d] => { results := [.lit (.bool true)], args := [d] }
  | _ => none }
def fnExactValidParcelRow : OpenClaim := { program := "ytimbfpcjnbnpmaa", sum := "ce1aea15b21265ee95c0c8858a14694d662116a8781277405f089413fb669aea", func := "loop.example/g01224/laws.FnExactValidParcel", spec := "fnExactValidParcel", inPlace := ["math.Float32bits"], apart := false }
def FnExactValidParcelSaid : Prop := fnExactValidParcelRow.holds Try.pinned (OpenSpec.ofChange fnExactValidParcelSpec)

/-- ITS FALSE NEIGHBOUR: 'it returns false'. Refute it at one input. -/
def fnExactValidParcelWrong : ChangeSpec := { name := "fnExactValidParcel", fn := fun _ => fun
  | [d] => { results := [.lit (.bool false)], args := [d] }
  | _ => none }
def FnExactValidParcelWrongFalsely : Prop := fnExactValidParcelRow.holds Try.pinned (OpenSpec.ofChange fnExactValidParcelWrong)

/-- 'laws.FnExactRaiseDry': WHATEVER THE INPUT: true; the input reads as it did. -/
def fnExactRaiseDrySpec : ChangeSpec := { name := "fnExactRaiseDry", fn := fun _ => fun
  | [d1, d2] => { results := [.lit (.bool true)], args := [d1, d2] }
  | _ => none }
def fnExactRaiseDryRow : OpenClaim := { program := "ytimbfpcjnbnpmaa", sum := "ce1aea15b21265ee95c0c8858a14694d662116a8781277405f089413fb669aea", func := "loop.example/g01224/laws.FnExactRaiseDry", spec := "fnExactRaiseDry", inPlace := ["math.Float32bits"], apart := false }
def FnExactRaiseDrySaid : Prop := fnExactRaiseDryRow.holds Try.pinned (OpenSpec.ofChange fnExactRaiseDrySpec)

/-- ITS FALSE NEIGHBOUR: 'it returns false'. Refute it at one input. -/
def fnExactRaiseDryWrong : ChangeSpec := { name := "fnExactRaiseDry", fn := fun _ => fun
  | [d1, d2] => { results := [.lit (.bool false)], args := [d1, d2] }
  | _ => none }
def FnExactRaiseDryWrongFalsely : Prop := fnExactRaiseDryRow.holds Try.pinned (OpenSpec.ofChange fnExactRaiseDryWrong)

/-- 'laws.FnExactMixParcels': WHATEVER THE INPUT: true; the input reads as it did. -/
def fnExactMixParcelsSpec : ChangeSpec := { name := "fnExactMixParcels", fn := fun _ => fun
  | [d1, d2, d3] => { results := [.lit (.bool true)], args := [d1, d2, d3] }
  | _ => none }
def fnExactMixParcelsRow : OpenClaim := { program := "ytimbfpcjnbnpmaa", sum := "ce1aea15b21265ee95c0c8858a14694d662116a8781277405f089413fb669aea", func := "loop.example/g01224/laws.FnExactMixParcels", spec := "fnExactMixParcels", inPlace := ["math.Float32bits"], apart := false }
def FnExactMixParcelsSaid : Prop := fnExactMixParcelsRow.holds Try.pinned (OpenSpec.ofChange fnExactMixParcelsSpec)

/-- ITS FALSE NEIGHBOUR: 'it returns false'. Refute it at one input. -/
def fnExactMixParcelsWrong : ChangeSpec := { name := "fnExactMixParcels", fn := fun _ => fun
  | [d1, d2, d3] => { results := [.lit (.bool false)], args := [d1, d2, d3] }
  | _ => none }
def FnExactMixParcelsWrongFalsely : Prop := fnExactMixParcelsRow.holds Try.pinned (OpenSpec.ofChange fnExactMixParcelsWrong)

/-- 'laws.FnExactSettleAir': WHATEVER THE INPUT: true; the input reads as it did. -/
def fnExactSettleAirSpec : ChangeSpec := { name := "fnExactSettleAir", fn := fun _ => fun
  | [d] => { results := [.lit (.bool true)], args := [d] }
  | _ => none }
def fnExactSettleAirRow : OpenClaim := { program := "ytimbfpcjnbnpmaa", sum := "ce1aea15b21265ee95c0c8858a14694d662116a8781277405f089413fb669aea", func := "loop.example/g01224/laws.FnExactSettleAir", spec := "fnExactSettleAir", inPlace := ["math.Float32bits", "math.archFloor", "math.Float64bits", "math.Float64frombits", "math.archTrunc"], apart := false }
def FnExactSettleAirSaid : Prop := fnExactSettleAirRow.holds Try.pinned (OpenSpec.ofChange fnExactSettleAirSpec)

/-- ITS FALSE NEIGHBOUR: 'it returns false'. Refute it at one input. -/
def fnExactSettleAirWrong : ChangeSpec := { name := "fnExactSettleAir", fn := fun _ => fun
  | [d] => { results := [.lit (.bool false)], args := [d] }
  | _ => none }
def FnExactSettleAirWrongFalsely : Prop := fnExactSettleAirRow.holds Try.pinned (OpenSpec.ofChange fnExactSettleAirWrong)

/-- 'laws.FnExactRaiseMoist': WHATEVER THE INPUT: true; the input reads as it did. -/
def fnExactRaiseMoistSpec : ChangeSpec := { name := "fnExactRaiseMoist", fn := fun _ => fun
  | [d1, d2, d3] => { results := [.lit (.bool true)], args := [d1, d2, d3] }
  | _ => none }
def fnExactRaiseMoistRow : OpenClaim := { program := "ytimbfpcjnbnpmaa", sum := "ce1aea15b21265ee95c0c8858a14694d662116a8781277405f089413fb669aea", func := "loop.example/g01224/laws.FnExactRaiseMoist", spec := "fnExactRaiseMoist", inPlace := ["math.Float32bits", "math.archFloor", "math.Float64bits", "math.Float64frombits", "math.archTrunc"], apart := false }
def FnExactRaiseMoistSaid : Prop := fnExactRaiseMoistRow.holds Try.pinned (OpenSpec.ofChange fnExactRaiseMoistSpec)

/-- ITS FALSE NEIGHBOUR: 'it returns false'. Refute it at one input. -/
def fnExactRaiseMoistWrong : ChangeSpec := { name := "fnExactRaiseMoist", fn := fun _ => fun
  | [d1, d2, d3] => { results := [.lit (.bool false)], args := [d1, d2, d3] }
  | _ => none }
def FnExactRaiseMoistWrongFalsely : Prop := fnExactRaiseMoistRow.holds Try.pinned (OpenSpec.ofChange fnExactRaiseMoistWrong)

/-- 'laws.FnExactBaseOf': WHATEVER THE INPUT: true; the input reads as it did. -/
def fnExactBaseOfSpec : ChangeSpec := { name := "fnExactBaseOf", fn := fun _ => fun
  | [d] => { results := [.lit (.bool true)], args := [d] }
  | _ => none }
def fnExactBaseOfRow : OpenClaim := { program := "ytimbfpcjnbnpmaa", sum := "ce1aea15b21265ee95c0c8858a14694d662116a8781277405f089413fb669aea", func := "loop.example/g01224/laws.FnExactBaseOf", spec := "fnExactBaseOf", inPlace := ["math.Float32bits", "math.archFloor", "math.Float64bits", "math.Float64frombits", "math.archTrunc"], apart := false }
def FnExactBaseOfSaid : Prop := fnExactBaseOfRow.holds Try.pinned (OpenSpec.ofChange fnExactBaseOfSpec)

/-- ITS FALSE NEIGHBOUR: 'it returns false'. Refute it at one input. -/
def fnExactBaseOfWrong : ChangeSpec := { name := "fnExactBaseOf", fn := fun _ => fun
  | [d] => { results := [.lit (.bool false)], args := [d] }
  | _ => none }
def FnExactBaseOfWrongFalsely : Prop := fnExactBaseOfRow.holds Try.pinned (OpenSpec.ofChange fnExactBaseOfWrong)

/-- 'laws.FnMoist': WHATEVER THE INPUT: true; the input reads as it did. -/
def fnMoistSpec : ChangeSpec := { name := "fnMoist", fn := fun _ => fun
  | [d1, d2] => { results := [.lit (.bool true)], args := [d1, d2] }
  | _ => none }
def fnMoistRow : OpenClaim := { program := "ytimbfpcjnbnpmaa", sum := "ce1aea15b21265ee95c0c8858a14694d662116a8781277405f089413fb669aea", func := "loop.example/g01224/laws.FnMoist", spec := "fnMoist", inPlace := ["math.archFloor", "math.Float64bits", "math.Float64frombits", "math.archTrunc", "math.Float32bits", "math.Float32frombits"], apart := false }
def FnMoistSaid : Prop := fnMoistRow.holds Try.pinned (OpenSpec.ofChange fnMoistSpec)

/-- ITS FALSE NEIGHBOUR: 'it returns false'. Refute it at one input. -/
def fnMoistWrong : ChangeSpec := { name := "fnMoist", fn := fun _ => fun
  | [d1, d2] => { results := [.lit (.bool false)], args := [d1, d2] }
  | _ => none }
def FnMoistWrongFalsely : Prop := fnMoistRow.holds Try.pinned (OpenSpec.ofChange fnMoistWrong)

/-- 'laws.FnRaised': WHATEVER THE INPUT: true; the input reads as it did. -/
def fnRaisedSpec : ChangeSpec := { name := "fnRaised", fn := fun _ => fun
  | [d1, d2] => { results := [.lit (.bool true)], args := [d1, d2] }
  | _ => none }
def fnRaisedRow : OpenClaim := { program := "ytimbfpcjnbnpmaa", sum := "ce1aea15b21265ee95c0c8858a14694d662116a8781277405f089413fb669aea", func := "loop.example/g01224/laws.FnRaised", spec := "fnRaised", inPlace := ["math.archFloor", "math.Float64bits", "math.Float64frombits", "math.archTrunc", "math.Float32bits", "math.Float32frombits"], apart := false }
def FnRaisedSaid : Prop := fnRaisedRow.holds Try.pinned (OpenSpec.ofChange fnRaisedSpec)

/-- ITS FALSE NEIGHBOUR: 'it returns false'. Refute it at one input. -/
def fnRaisedWrong : ChangeSpec := { name := "fnRaised", fn := fun _ => fun
  | [d1, d2] => { results := [.lit (.bool false)], args := [d1, d2] }
  | _ => none }
def FnRaisedWrongFalsely : Prop := fnRaisedRow.holds Try.pinned (OpenSpec.ofChange fnRaisedWrong)

/- THE SECOND FORM. 'bulk': how many values and letters a reading holds, each counted each time it is reached (what is shared counts as often as it is met; a slice's spare places count too). A statement '..UptoSaid' is the law's where the arguments, and the package variables that the reading takes, are together of bulk at most 1048576: NARROWER than '..Said'. Prove '..Said' where nothing that the law and all that it calls make is longer than what came in: it says more and counts as full. Else prove '..UptoSaid'. A law counts once. -/
mutual
def uptoBulk {H : Type} : DataW H → Nat
  | .lit (.string bytes) => bytes.length + 1
  | .lit _ => 1
  | .nil => 1
  | .ptr d => uptoBulk d + 1
  | .slice elems spare => uptoBulkAll elems + uptoBulkAll spare + 1
  | .agg parts => uptoBulkAll parts + 1
  | .iface _ d => uptoBulk d + 1
  | .map entries => uptoBulkEntries entries + 1
  | .held _ => 1
def uptoBulkAll {H : Type} : List (DataW H) → Nat
  | [] => 0
  | d :: r => uptoBulk d + uptoBulkAll r
def uptoBulkEntries {H : Type} : List (Lit × DataW H) → Nat
  | [] => 0
  | x :: r => uptoBulkEntry x + uptoBulkEntries r
def uptoBulkEntry {H : Type} : Lit × DataW H → Nat
  | (.string bytes, d) => bytes.length + uptoBulk d + 1
  | (_, d) => uptoBulk d + 1
 end
def uptoSmall : (H : Type) → List (DataW H) → Bool := fun _ ds => decide (uptoBulkAll ds ≤ 1048576)
def OpenSpec.upto (s : _root_.Go.ChangeSpec) : _root_.Go.OpenSpec := { _root_.Go.OpenSpec.ofChange s with cond := some uptoSmall }

/-- 'laws.FnExactSameParcel', WHERE WHAT IT READS IS OF BULK AT MOST 1048576: true; the input reads as it did. -/
def fnExactSameParcelUptoRow : OpenClaim := { program := "ytimbfpcjnbnpmaa", sum := "ce1aea15b21265ee95c0c8858a14694d662116a8781277405f089413fb669aea", func := "loop.example/g01224/laws.FnExactSameParcel", spec := "fnExactSameParcel", inPlace := ["math.Float32bits"], apart := false, narrowed := true }
def FnExactSameParcelUptoSaid : Prop := fnExactSameParcelUptoRow.holds Try.pinned (OpenSpec.upto fnExactSameParcelSpec)

/-- 'laws.FnExactValidParcel', WHERE WHAT IT READS IS OF BULK AT MOST 1048576: true; the input reads as it did. -/
def fnExactValidParcelUptoRow : OpenClaim := { program := "ytimbfpcjnbnpmaa", sum := "ce1aea15b21265ee95c0c8858a14694d662116a8781277405f089413fb669aea", func := "loop.example/g01224/laws.FnExactValidParcel", spec := "fnExactValidParcel", inPlace := ["math.Float32bits"], apart := false, narrowed := true }
def FnExactValidParcelUptoSaid : Prop := fnExactValidParcelUptoRow.holds Try.pinned (OpenSpec.upto fnExactValidParcelSpec)

/-- 'laws.FnExactRaiseDry', WHERE WHAT IT READS IS OF BULK AT MOST 1048576: true; the input reads as it did. -/
def fnExactRaiseDryUptoRow : OpenClaim := { program := "ytimbfpcjnbnpmaa", sum := "ce1aea15b21265ee95c0c8858a14694d662116a8781277405f089413fb669aea", func := "loop.example/g01224/laws.FnExactRaiseDry", spec := "fnExactRaiseDry", inPlace := ["math.Float32bits"], apart := false, narrowed := true }
def FnExactRaiseDryUptoSaid : Prop := fnExactRaiseDryUptoRow.holds Try.pinned (OpenSpec.upto fnExactRaiseDrySpec)

/-- 'laws.FnExactMixParcels', WHERE WHAT IT READS IS OF BULK AT MOST 1048576: true; the input reads as it did. -/
def fnExactMixParcelsUptoRow : OpenClaim := { program := "ytimbfpcjnbnpmaa", sum := "ce1aea15b21265ee95c0c8858a14694d662116a8781277405f089413fb669aea", func := "loop.example/g01224/laws.FnExactMixParcels", spec := "fnExactMixParcels", inPlace := ["math.Float32bits"], apart := false, narrowed := true }
def FnExactMixParcelsUptoSaid : Prop := fnExactMixParcelsUptoRow.holds Try.pinned (OpenSpec.upto fnExactMixParcelsSpec)

/-- 'laws.FnExactSettleAir', WHERE WHAT IT READS IS OF BULK AT MOST 1048576: true; the input reads as it did. -/
def fnExactSettleAirUptoRow : OpenClaim := { program := "ytimbfpcjnbnpmaa", sum := "ce1aea15b21265ee95c0c8858a14694d662116a8781277405f089413fb669aea", func := "loop.example/g01224/laws.FnExactSettleAir", spec := "fnExactSettleAir", inPlace := ["math.Float32bits", "math.archFloor", "math.Float64bits", "math.Float64frombits", "math.archTrunc"], apart := false, narrowed := true }
def FnExactSettleAirUptoSaid : Prop := fnExactSettleAirUptoRow.holds Try.pinned (OpenSpec.upto fnExactSettleAirSpec)

/-- 'laws.FnExactRaiseMoist', WHERE WHAT IT READS IS OF BULK AT MOST 1048576: true; the input reads as it did. -/
def fnExactRaiseMoistUptoRow : OpenClaim := { program := "ytimbfpcjnbnpmaa", sum := "ce1aea15b21265ee95c0c8858a14694d662116a8781277405f089413fb669aea", func := "loop.example/g01224/laws.FnExactRaiseMoist", spec := "fnExactRaiseMoist", inPlace := ["math.Float32bits", "math.archFloor", "math.Float64bits", "math.Float64frombits", "math.archTrunc"], apart := false, narrowed := true }
def FnExactRaiseMoistUptoSaid : Prop := fnExactRaiseMoistUptoRow.holds Try.pinned (OpenSpec.upto fnExactRaiseMoistSpec)

/-- 'laws.FnExactBaseOf', WHERE WHAT IT READS IS OF BULK AT MOST 1048576: true; the input reads as it did. -/
def fnExactBaseOfUptoRow : OpenClaim := { program := "ytimbfpcjnbnpmaa", sum := "ce1aea15b21265ee95c0c8858a14694d662116a8781277405f089413fb669aea", func := "loop.example/g01224/laws.FnExactBaseOf", spec := "fnExactBaseOf", inPlace := ["math.Float32bits", "math.archFloor", "math.Float64bits", "math.Float64frombits", "math.archTrunc"], apart := false, narrowed := true }
def FnExactBaseOfUptoSaid : Prop := fnExactBaseOfUptoRow.holds Try.pinned (OpenSpec.upto fnExactBaseOfSpec)

/-- 'laws.FnMoist', WHERE WHAT IT READS IS OF BULK AT MOST 1048576: true; the input reads as it did. -/
def fnMoistUptoRow : OpenClaim := { program := "ytimbfpcjnbnpmaa", sum := "ce1aea15b21265ee95c0c8858a14694d662116a8781277405f089413fb669aea", func := "loop.example/g01224/laws.FnMoist", spec := "fnMoist", inPlace := ["math.archFloor", "math.Float64bits", "math.Float64frombits", "math.archTrunc", "math.Float32bits", "math.Float32frombits"], apart := false, narrowed := true }
def FnMoistUptoSaid : Prop := fnMoistUptoRow.holds Try.pinned (OpenSpec.upto fnMoistSpec)

/-- 'laws.FnRaised', WHERE WHAT IT READS IS OF BULK AT MOST 1048576: true; the input reads as it did. -/
def fnRaisedUptoRow : OpenClaim := { program := "ytimbfpcjnbnpmaa", sum := "ce1aea15b21265ee95c0c8858a14694d662116a8781277405f089413fb669aea", func := "loop.example/g01224/laws.FnRaised", spec := "fnRaised", inPlace := ["math.archFloor", "math.Float64bits", "math.Float64frombits", "math.archTrunc", "math.Float32bits", "math.Float32frombits"], apart := false, narrowed := true }
def FnRaisedUptoSaid : Prop := fnRaisedUptoRow.holds Try.pinned (OpenSpec.upto fnRaisedSpec)

end Rows
end Go.Proofs.Ytimbfpcjnbnpmaa
