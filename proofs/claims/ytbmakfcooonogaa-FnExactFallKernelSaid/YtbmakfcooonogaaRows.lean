/-
  No cell of these rows narrows 'for every input' (looked for: loops, veiled, ifaces, maps, wideKeys, modest, calm, conditions, laid).
  DERIVED. THE GIVEN ROWS OF THIS SEAT. 11 by the template 'for every input the law returns true; each argument reads behind the call as it read before'; 0 by the template 'total and deterministic' (their statements: YtbmakfcooonogaaTotals.lean).
  GIVEN WITH THE SEED: the statements are not yours to turn. If you find one false, say at which input.
  Laid BY PROGRAM, IN A SANDBOX (cutbox-rows.mjs): the forced cells as the released guide's own fill.sh prints them over the translation 33c4c2126f26c4fa… (all of the seat's roots in one cut). By AI agents, Wed Nov 11 2026. No macro, syntax, notation, axiom, sorry.
-/
import Derived.Test.YtbmakfcooonogaaChecked
import GoSem.Claim
import GoSem.ClaimJoined
import GoSem.ClaimMapViews
import Derived.JoinedTies
import Derived.KernelRfl
namespace Go.Proofs.Ytbmakfcooonogaa
/- THE CELL 'sum', in the pinned program and in every row, IS THE sha256 OF THE DUMP (.gsa) THAT YtbmakfcooonogaaProg.lean LOADS. Nothing in Lean hashes anything: it is a label: what it is worth is what the hold of that sum in a sandbox is worth. -/
noncomputable def Try.pinned : Pinned := { name := "ytbmakfcooonogaa", sum := "33c4c2126f26c4fac1862472d8d7c9ad05cb6c78c6ac5ddaf51ed7c6ca1444ba", checked := Try.checked }
namespace Rows
def none {H : Type} : Left H := { results := [], args := [] }

/-- 'laws.FnExactGatherDust': WHATEVER THE INPUT: true; the input reads as it did. -/
def fnExactGatherDustSpec : ChangeSpec := { name := "fnExactGatherDust", fn := fun _ => fun
  | [d] => { results := [.lit (.bool true)], args := [d] }
  | _ => none }
def fnExactGatherDustRow : OpenClaim := { program := "ytbmakfcooonogaa", sum := "33c4c2126f26c4fac1862472d8d7c9ad05cb6c78c6ac5ddaf51ed7c6ca1444ba", func := "loop.example/g01224/laws.FnExactGatherDust", spec := "fnExactGatherDust", apart := false }
def FnExactGatherDustSaid : Prop := fnExactGatherDustRow.holds Try.pinned (OpenSpec.ofChange fnExactGatherDustSpec)

/-- ITS FALSE NEIGHBOUR: 'it returns false'. Refute it at one input. -/
def fnExactGatherDustWrong : ChangeSpec := { name := "fnExactGatherDust", fn := fun _ => fun
  | [d] => { results := [.lit (.bool false)], args := [d] }
  | _ => none }
def FnExactGatherDustWrongFalsely : Prop := fnExactGatherDustRow.holds Try.pinned (OpenSpec.ofChange fnExactGatherDustWrong)

/-- 'laws.FnExactFallOf': WHATEVER THE INPUT: true; the input reads as it did. -/
def fnExactFallOfSpec : ChangeSpec := { name := "fnExactFallOf", fn := fun _ => fun
  | [d] => { results := [.lit (.bool true)], args := [d] }
  | _ => none }
def fnExactFallOfRow : OpenClaim := { program := "ytbmakfcooonogaa", sum := "33c4c2126f26c4fac1862472d8d7c9ad05cb6c78c6ac5ddaf51ed7c6ca1444ba", func := "loop.example/g01224/laws.FnExactFallOf", spec := "fnExactFallOf", apart := false }
def FnExactFallOfSaid : Prop := fnExactFallOfRow.holds Try.pinned (OpenSpec.ofChange fnExactFallOfSpec)

/-- ITS FALSE NEIGHBOUR: 'it returns false'. Refute it at one input. -/
def fnExactFallOfWrong : ChangeSpec := { name := "fnExactFallOf", fn := fun _ => fun
  | [d] => { results := [.lit (.bool false)], args := [d] }
  | _ => none }
def FnExactFallOfWrongFalsely : Prop := fnExactFallOfRow.holds Try.pinned (OpenSpec.ofChange fnExactFallOfWrong)

/-- 'laws.FnExactSumKernel': WHATEVER THE INPUT: true; the input reads as it did. -/
def fnExactSumKernelSpec : ChangeSpec := { name := "fnExactSumKernel", fn := fun _ => fun
  | [d] => { results := [.lit (.bool true)], args := [d] }
  | _ => none }
def fnExactSumKernelRow : OpenClaim := { program := "ytbmakfcooonogaa", sum := "33c4c2126f26c4fac1862472d8d7c9ad05cb6c78c6ac5ddaf51ed7c6ca1444ba", func := "loop.example/g01224/laws.FnExactSumKernel", spec := "fnExactSumKernel", inPlace := ["math.Float32bits"], unfollowed := true, recurses := true, apart := false }
def FnExactSumKernelSaid : Prop := fnExactSumKernelRow.holds Try.pinned (OpenSpec.ofChange fnExactSumKernelSpec)

/-- ITS FALSE NEIGHBOUR: 'it returns false'. Refute it at one input. -/
def fnExactSumKernelWrong : ChangeSpec := { name := "fnExactSumKernel", fn := fun _ => fun
  | [d] => { results := [.lit (.bool false)], args := [d] }
  | _ => none }
def FnExactSumKernelWrongFalsely : Prop := fnExactSumKernelRow.holds Try.pinned (OpenSpec.ofChange fnExactSumKernelWrong)

/-- 'laws.FnExactFallKernel': WHATEVER THE INPUT: true; the input reads as it did. -/
def fnExactFallKernelSpec : ChangeSpec := { name := "fnExactFallKernel", fn := fun _ => fun
  | [d] => { results := [.lit (.bool true)], args := [d] }
  | _ => none }
def fnExactFallKernelRow : OpenClaim := { program := "ytbmakfcooonogaa", sum := "33c4c2126f26c4fac1862472d8d7c9ad05cb6c78c6ac5ddaf51ed7c6ca1444ba", func := "loop.example/g01224/laws.FnExactFallKernel", spec := "fnExactFallKernel", inPlace := ["math.Float32bits", "math.Float32frombits"], unfollowed := true, recurses := true, apart := false }
def FnExactFallKernelSaid : Prop := fnExactFallKernelRow.holds Try.pinned (OpenSpec.ofChange fnExactFallKernelSpec)

/-- ITS FALSE NEIGHBOUR: 'it returns false'. Refute it at one input. -/
def fnExactFallKernelWrong : ChangeSpec := { name := "fnExactFallKernel", fn := fun _ => fun
  | [d] => { results := [.lit (.bool false)], args := [d] }
  | _ => none }
def FnExactFallKernelWrongFalsely : Prop := fnExactFallKernelRow.holds Try.pinned (OpenSpec.ofChange fnExactFallKernelWrong)

/-- 'laws.FnExactAddKernels': WHATEVER THE INPUT: true; the input reads as it did. -/
def fnExactAddKernelsSpec : ChangeSpec := { name := "fnExactAddKernels", fn := fun _ => fun
  | [d1, d2] => { results := [.lit (.bool true)], args := [d1, d2] }
  | _ => none }
def fnExactAddKernelsRow : OpenClaim := { program := "ytbmakfcooonogaa", sum := "33c4c2126f26c4fac1862472d8d7c9ad05cb6c78c6ac5ddaf51ed7c6ca1444ba", func := "loop.example/g01224/laws.FnExactAddKernels", spec := "fnExactAddKernels", inPlace := ["math.Float32bits"], apart := false }
def FnExactAddKernelsSaid : Prop := fnExactAddKernelsRow.holds Try.pinned (OpenSpec.ofChange fnExactAddKernelsSpec)

/-- ITS FALSE NEIGHBOUR: 'it returns false'. Refute it at one input. -/
def fnExactAddKernelsWrong : ChangeSpec := { name := "fnExactAddKernels", fn := fun _ => fun
  | [d1, d2] => { results := [.lit (.bool false)], args := [d1, d2] }
  | _ => none }
def FnExactAddKernelsWrongFalsely : Prop := fnExactAddKernelsRow.holds Try.pinned (OpenSpec.ofChange fnExactAddKernelsWrong)

/-- 'laws.FnExactScaleKernel': WHATEVER THE INPUT: true; the input reads as it did. -/
def fnExactScaleKernelSpec : ChangeSpec := { name := "fnExactScaleKernel", fn := fun _ => fun
  | [d1, d2] => { results := [.lit (.bool true)], args := [d1, d2] }
  | _ => none }
def fnExactScaleKernelRow : OpenClaim := { program := "ytbmakfcooonogaa", sum := "33c4c2126f26c4fac1862472d8d7c9ad05cb6c78c6ac5ddaf51ed7c6ca1444ba", func := "loop.example/g01224/laws.FnExactScaleKernel", spec := "fnExactScaleKernel", inPlace := ["math.Float32bits"], apart := false }
def FnExactScaleKernelSaid : Prop := fnExactScaleKernelRow.holds Try.pinned (OpenSpec.ofChange fnExactScaleKernelSpec)

/-- ITS FALSE NEIGHBOUR: 'it returns false'. Refute it at one input. -/
def fnExactScaleKernelWrong : ChangeSpec := { name := "fnExactScaleKernel", fn := fun _ => fun
  | [d1, d2] => { results := [.lit (.bool false)], args := [d1, d2] }
  | _ => none }
def FnExactScaleKernelWrongFalsely : Prop := fnExactScaleKernelRow.holds Try.pinned (OpenSpec.ofChange fnExactScaleKernelWrong)

/-- 'laws.FnExactBreakClass': WHATEVER THE INPUT: true; the input reads as it did. -/
def fnExactBreakClassSpec : ChangeSpec := { name := "fnExactBreakClass", fn := fun _ => fun
  | [d1, d2, d3] => { results := [.lit (.bool true)], args := [d1, d2, d3] }
  | _ => none }
def fnExactBreakClassRow : OpenClaim := { program := "ytbmakfcooonogaa", sum := "33c4c2126f26c4fac1862472d8d7c9ad05cb6c78c6ac5ddaf51ed7c6ca1444ba", func := "loop.example/g01224/laws.FnExactBreakClass", spec := "fnExactBreakClass", inPlace := ["math.Float32bits"], apart := false }
def FnExactBreakClassSaid : Prop := fnExactBreakClassRow.holds Try.pinned (OpenSpec.ofChange fnExactBreakClassSpec)

/-- ITS FALSE NEIGHBOUR: 'it returns false'. Refute it at one input. -/
def fnExactBreakClassWrong : ChangeSpec := { name := "fnExactBreakClass", fn := fun _ => fun
  | [d1, d2, d3] => { results := [.lit (.bool false)], args := [d1, d2, d3] }
  | _ => none }
def FnExactBreakClassWrongFalsely : Prop := fnExactBreakClassRow.holds Try.pinned (OpenSpec.ofChange fnExactBreakClassWrong)

/-- 'laws.FnExactBreakLarge': WHATEVER THE INPUT: true; the input reads as it did. -/
def fnExactBreakLargeSpec : ChangeSpec := { name := "fnExactBreakLarge", fn := fun _ => fun
  | [d1, d2, d3] => { results := [.lit (.bool true)], args := [d1, d2, d3] }
  | _ => none }
def fnExactBreakLargeRow : OpenClaim := { program := "ytbmakfcooonogaa", sum := "33c4c2126f26c4fac1862472d8d7c9ad05cb6c78c6ac5ddaf51ed7c6ca1444ba", func := "loop.example/g01224/laws.FnExactBreakLarge", spec := "fnExactBreakLarge", inPlace := ["math.Float32bits"], apart := false }
def FnExactBreakLargeSaid : Prop := fnExactBreakLargeRow.holds Try.pinned (OpenSpec.ofChange fnExactBreakLargeSpec)

/-- ITS FALSE NEIGHBOUR: 'it returns false'. Refute it at one input. -/
def fnExactBreakLargeWrong : ChangeSpec := { name := "fnExactBreakLarge", fn := fun _ => fun
  | [d1, d2, d3] => { results := [.lit (.bool false)], args := [d1, d2, d3] }
  | _ => none }
def FnExactBreakLargeWrongFalsely : Prop := fnExactBreakLargeRow.holds Try.pinned (OpenSpec.ofChange fnExactBreakLargeWrong)

/-- 'laws.FnExactCollidePair': WHATEVER THE INPUT: true; the input reads as it did. -/
def fnExactCollidePairSpec : ChangeSpec := { name := "fnExactCollidePair", fn := fun _ => fun
  | [d1, d2] => { results := [.lit (.bool true)], args := [d1, d2] }
  | _ => none }
def fnExactCollidePairRow : OpenClaim := { program := "ytbmakfcooonogaa", sum := "33c4c2126f26c4fac1862472d8d7c9ad05cb6c78c6ac5ddaf51ed7c6ca1444ba", func := "loop.example/g01224/laws.FnExactCollidePair", spec := "fnExactCollidePair", apart := false }
def FnExactCollidePairSaid : Prop := fnExactCollidePairRow.holds Try.pinned (OpenSpec.ofChange fnExactCollidePairSpec)

/-- ITS FALSE NEIGHBOUR: 'it returns false'. Refute it at one input. -/
def fnExactCollidePairWrong : ChangeSpec := { name := "fnExactCollidePair", fn := fun _ => fun
  | [d1, d2] => { results := [.lit (.bool false)], args := [d1, d2] }
  | _ => none }
def FnExactCollidePairWrongFalsely : Prop := fnExactCollidePairRow.holds Try.pinned (OpenSpec.ofChange fnExactCollidePairWrong)

/-- 'laws.FnExactCollidePairs': WHATEVER THE INPUT: true; the input reads as it did. -/
def fnExactCollidePairsSpec : ChangeSpec := { name := "fnExactCollidePairs", fn := fun _ => fun
  | [d1, d2] => { results := [.lit (.bool true)], args := [d1, d2] }
  | _ => none }
def fnExactCollidePairsRow : OpenClaim := { program := "ytbmakfcooonogaa", sum := "33c4c2126f26c4fac1862472d8d7c9ad05cb6c78c6ac5ddaf51ed7c6ca1444ba", func := "loop.example/g01224/laws.FnExactCollidePairs", spec := "fnExactCollidePairs", apart := false }
def FnExactCollidePairsSaid : Prop := fnExactCollidePairsRow.holds Try.pinned (OpenSpec.ofChange fnExactCollidePairsSpec)

/-- ITS FALSE NEIGHBOUR: 'it returns false'. Refute it at one input. -/
def fnExactCollidePairsWrong : ChangeSpec := { name := "fnExactCollidePairs", fn := fun _ => fun
  | [d1, d2] => { results := [.lit (.bool false)], args := [d1, d2] }
  | _ => none }
def FnExactCollidePairsWrongFalsely : Prop := fnExactCollidePairsRow.holds Try.pinned (OpenSpec.ofChange fnExactCollidePairsWrong)

/-- 'laws.FnExactDrawPairs': WHATEVER THE INPUT: true; the input reads as it did. -/
def fnExactDrawPairsSpec : ChangeSpec := { name := "fnExactDrawPairs", fn := fun _ => fun
  | [d1, d2, d3] => { results := [.lit (.bool true)], args := [d1, d2, d3] }
  | _ => none }
def fnExactDrawPairsRow : OpenClaim := { program := "ytbmakfcooonogaa", sum := "33c4c2126f26c4fac1862472d8d7c9ad05cb6c78c6ac5ddaf51ed7c6ca1444ba", func := "loop.example/g01224/laws.FnExactDrawPairs", spec := "fnExactDrawPairs", apart := false }
def FnExactDrawPairsSaid : Prop := fnExactDrawPairsRow.holds Try.pinned (OpenSpec.ofChange fnExactDrawPairsSpec)

/-- ITS FALSE NEIGHBOUR: 'it returns false'. Refute it at one input. -/
def fnExactDrawPairsWrong : ChangeSpec := { name := "fnExactDrawPairs", fn := fun _ => fun
  | [d1, d2, d3] => { results := [.lit (.bool false)], args := [d1, d2, d3] }
  | _ => none }
def FnExactDrawPairsWrongFalsely : Prop := fnExactDrawPairsRow.holds Try.pinned (OpenSpec.ofChange fnExactDrawPairsWrong)

/- THE SECOND FORM. 'bulk': how many values and letters a reading holds, each counted each time it is reached (what is shared counts as often as it is met; a slice's spare places count too). A statement '..UptoSaid' is the law's where the arguments, and the package variables that the reading takes, are together of bulk at most 1048576: NARROWER than '..Said'. Prove '..Said' where nothing that the law and all that it calls make is longer than what came in: it says more and counts as full. Else prove '..UptoSaid'. A law counts once. -/
mutual
def uptoBulk {H : Type} : DataW H → Nat
  | .lit (.string bytes) => bytes.length + 1
  | .lit _ => 1
  | .nil => 1
  | .ptr d => uptoBulk d + 1
  | .slice elems spare => uptoBulkAll elems + uptoBulkAll spare + 1
  | .agg parts => uptoBulkAll parts + 1
  | .iface _ d => uptoBulk d + 1
  | .map entries => uptoBulkEntries entries + 1
  | .held _ => 1
def uptoBulkAll {H : Type} : List (DataW H) → Nat
  | [] => 0
  | d :: r => uptoBulk d + uptoBulkAll r
def uptoBulkEntries {H : Type} : List (Lit × DataW H) → Nat
  | [] => 0
  | x :: r => uptoBulkEntry x + uptoBulkEntries r
def uptoBulkEntry {H : Type} : Lit × DataW H → Nat
  | (.string bytes, d) => bytes.length + uptoBulk d + 1
  | (_, d) => uptoBulk d + 1
 end
def uptoSmall : (H : Type) → List (DataW H) → Bool := fun _ ds => decide (uptoBulkAll ds ≤ 1048576)
def OpenSpec.upto (s : _root_.Go.ChangeSpec) : _root_.Go.OpenSpec := { _root_.Go.OpenSpec.ofChange s with cond := some uptoSmall }

/-- 'laws.FnExactGatherDust', WHERE WHAT IT READS IS OF BULK AT MOST 1048576: true; the input reads as it did. -/
def fnExactGatherDustUptoRow : OpenClaim := { program := "ytbmakfcooonogaa", sum := "33c4c2126f26c4fac1862472d8d7c9ad05cb6c78c6ac5ddaf51ed7c6ca1444ba", func := "loop.example/g01224/laws.FnExactGatherDust", spec := "fnExactGatherDust", apart := false, narrowed := true }
def FnExactGatherDustUptoSaid : Prop := fnExactGatherDustUptoRow.holds Try.pinned (OpenSpec.upto fnExactGatherDustSpec)

/-- 'laws.FnExactFallOf', WHERE WHAT IT READS IS OF BULK AT MOST 1048576: true; the input reads as it did. -/
def fnExactFallOfUptoRow : OpenClaim := { program := "ytbmakfcooonogaa", sum := "33c4c2126f26c4fac1862472d8d7c9ad05cb6c78c6ac5ddaf51ed7c6ca1444ba", func := "loop.example/g01224/laws.FnExactFallOf", spec := "fnExactFallOf", apart := false, narrowed := true }
def FnExactFallOfUptoSaid : Prop := fnExactFallOfUptoRow.holds Try.pinned (OpenSpec.upto fnExactFallOfSpec)

/-- 'laws.FnExactSumKernel', WHERE WHAT IT READS IS OF BULK AT MOST 1048576: true; the input reads as it did. -/
def fnExactSumKernelUptoRow : OpenClaim := { program := "ytbmakfcooonogaa", sum := "33c4c2126f26c4fac1862472d8d7c9ad05cb6c78c6ac5ddaf51ed7c6ca1444ba", func := "loop.example/g01224/laws.FnExactSumKernel", spec := "fnExactSumKernel", inPlace := ["math.Float32bits"], unfollowed := true, recurses := true, apart := false, narrowed := true }
def FnExactSumKernelUptoSaid : Prop := fnExactSumKernelUptoRow.holds Try.pinned (OpenSpec.upto fnExactSumKernelSpec)

/-- 'laws.FnExactFallKernel', WHERE WHAT IT READS IS OF BULK AT MOST 1048576: true; the input reads as it did. -/
def fnExactFallKernelUptoRow : OpenClaim := { program := "ytbmakfcooonogaa", sum := "33c4c2126f26c4fac1862472d8d7c9ad05cb6c78c6ac5ddaf51ed7c6ca1444ba", func := "loop.example/g01224/laws.FnExactFallKernel", spec := "fnExactFallKernel", inPlace := ["math.Float32bits", "math.Float32frombits"], unfollowed := true, recurses := true, apart := false, narrowed := true }
def FnExactFallKernelUptoSaid : Prop := fnExactFallKernelUptoRow.holds Try.pinned (OpenSpec.upto fnExactFallKernelSpec)

/-- 'laws.FnExactAddKernels', WHERE WHAT IT READS IS OF BULK AT MOST 1048576: true; the input reads as it did. -/
def fnExactAddKernelsUptoRow : OpenClaim := { program := "ytbmakfcooonogaa", sum := "33c4c2126f26c4fac1862472d8d7c9ad05cb6c78c6ac5ddaf51ed7c6ca1444ba", func := "loop.example/g01224/laws.FnExactAddKernels", spec := "fnExactAddKernels", inPlace := ["math.Float32bits"], apart := false, narrowed := true }
def FnExactAddKernelsUptoSaid : Prop := fnExactAddKernelsUptoRow.holds Try.pinned (OpenSpec.upto fnExactAddKernelsSpec)

/-- 'laws.FnExactScaleKernel', WHERE WHAT IT READS IS OF BULK AT MOST 1048576: true; the input reads as it did. -/
def fnExactScaleKernelUptoRow : OpenClaim := { program := "ytbmakfcooonogaa", sum := "33c4c2126f26c4fac1862472d8d7c9ad05cb6c78c6ac5ddaf51ed7c6ca1444ba", func := "loop.example/g01224/laws.FnExactScaleKernel", spec := "fnExactScaleKernel", inPlace := ["math.Float32bits"], apart := false, narrowed := true }
def FnExactScaleKernelUptoSaid : Prop := fnExactScaleKernelUptoRow.holds Try.pinned (OpenSpec.upto fnExactScaleKernelSpec)

/-- 'laws.FnExactBreakClass', WHERE WHAT IT READS IS OF BULK AT MOST 1048576: true; the input reads as it did. -/
def fnExactBreakClassUptoRow : OpenClaim := { program := "ytbmakfcooonogaa", sum := "33c4c2126f26c4fac1862472d8d7c9ad05cb6c78c6ac5ddaf51ed7c6ca1444ba", func := "loop.example/g01224/laws.FnExactBreakClass", spec := "fnExactBreakClass", inPlace := ["math.Float32bits"], apart := false, narrowed := true }
def FnExactBreakClassUptoSaid : Prop := fnExactBreakClassUptoRow.holds Try.pinned (OpenSpec.upto fnExactBreakClassSpec)

/-- 'laws.FnExactBreakLarge', WHERE WHAT IT READS IS OF BULK AT MOST 1048576: true; the input reads as it did. -/
def fnExactBreakLargeUptoRow : OpenClaim := { program := "ytbmakfcooonogaa", sum := "33c4c2126f26c4fac1862472d8d7c9ad05cb6c78c6ac5ddaf51ed7c6ca1444ba", func := "loop.example/g01224/laws.FnExactBreakLarge", spec := "fnExactBreakLarge", inPlace := ["math.Float32bits"], apart := false, narrowed := true }
def FnExactBreakLargeUptoSaid : Prop := fnExactBreakLargeUptoRow.holds Try.pinned (OpenSpec.upto fnExactBreakLargeSpec)

/-- 'laws.FnExactCollidePair', WHERE WHAT IT READS IS OF BULK AT MOST 1048576: true; the input reads as it did. -/
def fnExactCollidePairUptoRow : OpenClaim := { program := "ytbmakfcooonogaa", sum := "33c4c2126f26c4fac1862472d8d7c9ad05cb6c78c6ac5ddaf51ed7c6ca1444ba", func := "loop.example/g01224/laws.FnExactCollidePair", spec := "fnExactCollidePair", apart := false, narrowed := true }
def FnExactCollidePairUptoSaid : Prop := fnExactCollidePairUptoRow.holds Try.pinned (OpenSpec.upto fnExactCollidePairSpec)

/-- 'laws.FnExactCollidePairs', WHERE WHAT IT READS IS OF BULK AT MOST 1048576: true; the input reads as it did. -/
def fnExactCollidePairsUptoRow : OpenClaim := { program := "ytbmakfcooonogaa", sum := "33c4c2126f26c4fac1862472d8d7c9ad05cb6c78c6ac5ddaf51ed7c6ca1444ba", func := "loop.example/g01224/laws.FnExactCollidePairs", spec := "fnExactCollidePairs", apart := false, narrowed := true }
def FnExactCollidePairsUptoSaid : Prop := fnExactCollidePairsUptoRow.holds Try.pinned (OpenSpec.upto fnExactCollidePairsSpec)

/-- 'laws.FnExactDrawPairs', WHERE WHAT IT READS IS OF BULK AT MOST 1048576: true; the input reads as it did. -/
def fnExactDrawPairsUptoRow : OpenClaim := { program := "ytbmakfcooonogaa", sum := "33c4c2126f26c4fac1862472d8d7c9ad05cb6c78c6ac5ddaf51ed7c6ca1444ba", func := "loop.example/g01224/laws.FnExactDrawPairs", spec := "fnExactDrawPairs", apart := false, narrowed := true }
def FnExactDrawPairsUptoSaid : Prop := fnExactDrawPairsUptoRow.holds Try.pinned (OpenSpec.upto fnExactDrawPairsSpec)

end Rows
end Go.Proofs.Ytbmakfcooonogaa
