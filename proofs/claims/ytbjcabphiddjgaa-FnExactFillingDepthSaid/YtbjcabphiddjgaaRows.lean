/-
  No cell of these rows narrows 'for every input' (looked for: loops, veiled, ifaces, maps, wideKeys, modest, calm, conditions, laid).
  DERIVED. THE GIVEN ROWS OF THIS SEAT. 12 by the template 'for every input the law returns true; each argument reads behind the call as it read before'; 0 by the template 'total and deterministic' (their statements: YtbjcabphiddjgaaTotals.lean).
  GIVEN WITH THE SEED: the statements are not yours to turn. If you find one false, say at which input.
  Laid BY PROGRAM, IN A SANDBOX (cutbox-rows.mjs): the forced cells as the released guide's own fill.sh prints them over the translation e9aaf6e77280746a… (all of the seat's roots in one cut). By AI agents, Wed Nov 11 2026. No macro, syntax, notation, axiom, sorry.
-/
import Derived.Test.YtbjcabphiddjgaaChecked
import GoSem.Claim
import GoSem.ClaimJoined
import GoSem.ClaimMapViews
import Derived.JoinedTies
import Derived.KernelRfl
namespace Go.Proofs.Ytbjcabphiddjgaa
/- THE CELL 'sum', in the pinned program and in every row, IS THE sha256 OF THE DUMP (.gsa) THAT YtbjcabphiddjgaaProg.lean LOADS. Nothing in Lean hashes anything: it is a label: what it is worth is what the hold of that sum in a sandbox is worth. -/
noncomputable def Try.pinned : Pinned := { name := "ytbjcabphiddjgaa", sum := "e9aaf6e77280746afa72929a28dc535fda746a6b14fa8b6dea6fb425eadbebd3", checked := Try.checked }
namespace Rows
def none {H : Type} : Left H := { results := [], args := [] }

/-- 'laws.FnExactLastEntryOrder': WHATEVER THE INPUT: true; the input reads as it did. -/
def fnExactLastEntryOrderSpec : ChangeSpec := { name := "fnExactLastEntryOrder", fn := fun _ => fun
  | [d] => { results := [.lit (.bool true)], args := [d] }
  | _ => none }
def fnExactLastEntryOrderRow : OpenClaim := { program := "ytbjcabphiddjgaa", sum := "e9aaf6e77280746afa72929a28dc535fda746a6b14fa8b6dea6fb425eadbebd3", func := "loop.example/g01158/laws.FnExactLastEntryOrder", spec := "fnExactLastEntryOrder", unfollowed := true, recurses := true, apart := false }
def FnExactLastEntryOrderSaid : Prop := fnExactLastEntryOrderRow.holds Try.pinned (OpenSpec.ofChange fnExactLastEntryOrderSpec)

/-- ITS FALSE NEIGHBOUR: 'it returns false'. Refute it at one input. -/
def fnExactLastEntryOrderWrong : ChangeSpec := { name := "fnExactLastEntryOrder", fn := fun _ => fun
  | [d] => { results := [.lit (.bool false)], args := [d] }
  | _ => none }
def FnExactLastEntryOrderWrongFalsely : Prop := fnExactLastEntryOrderRow.holds Try.pinned (OpenSpec.ofChange fnExactLastEntryOrderWrong)

/-- 'laws.FnExactNextNodes': WHATEVER THE INPUT: true; the input reads as it did. -/
def fnExactNextNodesSpec : ChangeSpec := { name := "fnExactNextNodes", fn := fun _ => fun
  | [d1, d2] => { results := [.lit (.bool true)], args := [d1, d2] }
  | _ => none }
def fnExactNextNodesRow : OpenClaim := { program := "ytbjcabphiddjgaa", sum := "e9aaf6e77280746afa72929a28dc535fda746a6b14fa8b6dea6fb425eadbebd3", func := "loop.example/g01158/laws.FnExactNextNodes", spec := "fnExactNextNodes", unfollowed := true, recurses := true, apart := false }
def FnExactNextNodesSaid : Prop := fnExactNextNodesRow.holds Try.pinned (OpenSpec.ofChange fnExactNextNodesSpec)

/-- ITS FALSE NEIGHBOUR: 'it returns false'. Refute it at one input. -/
def fnExactNextNodesWrong : ChangeSpec := { name := "fnExactNextNodes", fn := fun _ => fun
  | [d1, d2] => { results := [.lit (.bool false)], args := [d1, d2] }
  | _ => none }
def FnExactNextNodesWrongFalsely : Prop := fnExactNextNodesRow.holds Try.pinned (OpenSpec.ofChange fnExactNextNodesWrong)

/-- 'laws.FnExactLargestEntrySet': WHATEVER THE INPUT: true; the input reads as it did. -/
def fnExactLargestEntrySetSpec : ChangeSpec := { name := "fnExactLargestEntrySet", fn := fun _ => fun
  | [d1, d2] => { results := [.lit (.bool true)], args := [d1, d2] }
  | _ => none }
def fnExactLargestEntrySetRow : OpenClaim := { program := "ytbjcabphiddjgaa", sum := "e9aaf6e77280746afa72929a28dc535fda746a6b14fa8b6dea6fb425eadbebd3", func := "loop.example/g01158/laws.FnExactLargestEntrySet", spec := "fnExactLargestEntrySet", unfollowed := true, recurses := true, apart := false }
def FnExactLargestEntrySetSaid : Prop := fnExactLargestEntrySetRow.holds Try.pinned (OpenSpec.ofChange fnExactLargestEntrySetSpec)

/-- ITS FALSE NEIGHBOUR: 'it returns false'. Refute it at one input. -/
def fnExactLargestEntrySetWrong : ChangeSpec := { name := "fnExactLargestEntrySet", fn := fun _ => fun
  | [d1, d2] => { results := [.lit (.bool false)], args := [d1, d2] }
  | _ => none }
def FnExactLargestEntrySetWrongFalsely : Prop := fnExactLargestEntrySetRow.holds Try.pinned (OpenSpec.ofChange fnExactLargestEntrySetWrong)

/-- 'laws.FnExactLatestPlace': WHATEVER THE INPUT: true; the input reads as it did. -/
def fnExactLatestPlaceSpec : ChangeSpec := { name := "fnExactLatestPlace", fn := fun _ => fun
  | [d1, d2] => { results := [.lit (.bool true)], args := [d1, d2] }
  | _ => none }
def fnExactLatestPlaceRow : OpenClaim := { program := "ytbjcabphiddjgaa", sum := "e9aaf6e77280746afa72929a28dc535fda746a6b14fa8b6dea6fb425eadbebd3", func := "loop.example/g01158/laws.FnExactLatestPlace", spec := "fnExactLatestPlace", unfollowed := true, recurses := true, apart := false }
def FnExactLatestPlaceSaid : Prop := fnExactLatestPlaceRow.holds Try.pinned (OpenSpec.ofChange fnExactLatestPlaceSpec)

/-- ITS FALSE NEIGHBOUR: 'it returns false'. Refute it at one input. -/
def fnExactLatestPlaceWrong : ChangeSpec := { name := "fnExactLatestPlace", fn := fun _ => fun
  | [d1, d2] => { results := [.lit (.bool false)], args := [d1, d2] }
  | _ => none }
def FnExactLatestPlaceWrongFalsely : Prop := fnExactLatestPlaceRow.holds Try.pinned (OpenSpec.ofChange fnExactLatestPlaceWrong)

/-- 'laws.FnExactSetWins': WHATEVER THE INPUT: true; the input reads as it did. -/
def fnExactSetWinsSpec : ChangeSpec := { name := "fnExactSetWins", fn := fun _ => fun
  | [d1, d2] => { results := [.lit (.bool true)], args := [d1, d2] }
  | _ => none }
def fnExactSetWinsRow : OpenClaim := { program := "ytbjcabphiddjgaa", sum := "e9aaf6e77280746afa72929a28dc535fda746a6b14fa8b6dea6fb425eadbebd3", func := "loop.example/g01158/laws.FnExactSetWins", spec := "fnExactSetWins", unfollowed := true, recurses := true, apart := false }
def FnExactSetWinsSaid : Prop := fnExactSetWinsRow.holds Try.pinned (OpenSpec.ofChange fnExactSetWinsSpec)

/-- ITS FALSE NEIGHBOUR: 'it returns false'. Refute it at one input. -/
def fnExactSetWinsWrong : ChangeSpec := { name := "fnExactSetWins", fn := fun _ => fun
  | [d1, d2] => { results := [.lit (.bool false)], args := [d1, d2] }
  | _ => none }
def FnExactSetWinsWrongFalsely : Prop := fnExactSetWinsRow.holds Try.pinned (OpenSpec.ofChange fnExactSetWinsWrong)

/-- 'laws.FnExactSetBars': WHATEVER THE INPUT: true; the input reads as it did. -/
def fnExactSetBarsSpec : ChangeSpec := { name := "fnExactSetBars", fn := fun _ => fun
  | [d1, d2] => { results := [.lit (.bool true)], args := [d1, d2] }
  | _ => none }
def fnExactSetBarsRow : OpenClaim := { program := "ytbjcabphiddjgaa", sum := "e9aaf6e77280746afa72929a28dc535fda746a6b14fa8b6dea6fb425eadbebd3", func := "loop.example/g01158/laws.FnExactSetBars", spec := "fnExactSetBars", unfollowed := true, recurses := true, apart := false }
def FnExactSetBarsSaid : Prop := fnExactSetBarsRow.holds Try.pinned (OpenSpec.ofChange fnExactSetBarsSpec)

/-- ITS FALSE NEIGHBOUR: 'it returns false'. Refute it at one input. -/
def fnExactSetBarsWrong : ChangeSpec := { name := "fnExactSetBars", fn := fun _ => fun
  | [d1, d2] => { results := [.lit (.bool false)], args := [d1, d2] }
  | _ => none }
def FnExactSetBarsWrongFalsely : Prop := fnExactSetBarsRow.holds Try.pinned (OpenSpec.ofChange fnExactSetBarsWrong)

/-- 'laws.FnExactCountWinning': WHATEVER THE INPUT: true; the input reads as it did. -/
def fnExactCountWinningSpec : ChangeSpec := { name := "fnExactCountWinning", fn := fun _ => fun
  | [d] => { results := [.lit (.bool true)], args := [d] }
  | _ => none }
def fnExactCountWinningRow : OpenClaim := { program := "ytbjcabphiddjgaa", sum := "e9aaf6e77280746afa72929a28dc535fda746a6b14fa8b6dea6fb425eadbebd3", func := "loop.example/g01158/laws.FnExactCountWinning", spec := "fnExactCountWinning", unfollowed := true, recurses := true, apart := false }
def FnExactCountWinningSaid : Prop := fnExactCountWinningRow.holds Try.pinned (OpenSpec.ofChange fnExactCountWinningSpec)

/-- ITS FALSE NEIGHBOUR: 'it returns false'. Refute it at one input. -/
def fnExactCountWinningWrong : ChangeSpec := { name := "fnExactCountWinning", fn := fun _ => fun
  | [d] => { results := [.lit (.bool false)], args := [d] }
  | _ => none }
def FnExactCountWinningWrongFalsely : Prop := fnExactCountWinningRow.holds Try.pinned (OpenSpec.ofChange fnExactCountWinningWrong)

/-- 'laws.FnExactNeededColours': WHATEVER THE INPUT: true; the input reads as it did. -/
def fnExactNeededColoursSpec : ChangeSpec := { name := "fnExactNeededColours", fn := fun _ => fun
  | [d] => { results := [.lit (.bool true)], args := [d] }
  | _ => none }
def fnExactNeededColoursRow : OpenClaim := { program := "ytbjcabphiddjgaa", sum := "e9aaf6e77280746afa72929a28dc535fda746a6b14fa8b6dea6fb425eadbebd3", func := "loop.example/g01158/laws.FnExactNeededColours", spec := "fnExactNeededColours", unfollowed := true, recurses := true, apart := false }
def FnExactNeededColoursSaid : Prop := fnExactNeededColoursRow.holds Try.pinned (OpenSpec.ofChange fnExactNeededColoursSpec)

/-- ITS FALSE NEIGHBOUR: 'it returns false'. Refute it at one input. -/
def fnExactNeededColoursWrong : ChangeSpec := { name := "fnExactNeededColours", fn := fun _ => fun
  | [d] => { results := [.lit (.bool false)], args := [d] }
  | _ => none }
def FnExactNeededColoursWrongFalsely : Prop := fnExactNeededColoursRow.holds Try.pinned (OpenSpec.ofChange fnExactNeededColoursWrong)

/-- 'laws.FnExactPowerOfColours': WHATEVER THE INPUT: true; the input reads as it did. -/
def fnExactPowerOfColoursSpec : ChangeSpec := { name := "fnExactPowerOfColours", fn := fun _ => fun
  | [d] => { results := [.lit (.bool true)], args := [d] }
  | _ => none }
def fnExactPowerOfColoursRow : OpenClaim := { program := "ytbjcabphiddjgaa", sum := "e9aaf6e77280746afa72929a28dc535fda746a6b14fa8b6dea6fb425eadbebd3", func := "loop.example/g01158/laws.FnExactPowerOfColours", spec := "fnExactPowerOfColours", unfollowed := true, recurses := true, apart := false }
def FnExactPowerOfColoursSaid : Prop := fnExactPowerOfColoursRow.holds Try.pinned (OpenSpec.ofChange fnExactPowerOfColoursSpec)

/-- ITS FALSE NEIGHBOUR: 'it returns false'. Refute it at one input. -/
def fnExactPowerOfColoursWrong : ChangeSpec := { name := "fnExactPowerOfColours", fn := fun _ => fun
  | [d] => { results := [.lit (.bool false)], args := [d] }
  | _ => none }
def FnExactPowerOfColoursWrongFalsely : Prop := fnExactPowerOfColoursRow.holds Try.pinned (OpenSpec.ofChange fnExactPowerOfColoursWrong)

/-- 'laws.FnExactLayKeys': WHATEVER THE INPUT: true; the input reads as it did. -/
def fnExactLayKeysSpec : ChangeSpec := { name := "fnExactLayKeys", fn := fun _ => fun
  | [d1, d2, d3] => { results := [.lit (.bool true)], args := [d1, d2, d3] }
  | _ => none }
def fnExactLayKeysRow : OpenClaim := { program := "ytbjcabphiddjgaa", sum := "e9aaf6e77280746afa72929a28dc535fda746a6b14fa8b6dea6fb425eadbebd3", func := "loop.example/g01158/laws.FnExactLayKeys", spec := "fnExactLayKeys", unfollowed := true, recurses := true, apart := false }
def FnExactLayKeysSaid : Prop := fnExactLayKeysRow.holds Try.pinned (OpenSpec.ofChange fnExactLayKeysSpec)

/-- ITS FALSE NEIGHBOUR: 'it returns false'. Refute it at one input. -/
def fnExactLayKeysWrong : ChangeSpec := { name := "fnExactLayKeys", fn := fun _ => fun
  | [d1, d2, d3] => { results := [.lit (.bool false)], args := [d1, d2, d3] }
  | _ => none }
def FnExactLayKeysWrongFalsely : Prop := fnExactLayKeysRow.holds Try.pinned (OpenSpec.ofChange fnExactLayKeysWrong)

/-- 'laws.FnExactFillingWins': WHATEVER THE INPUT: true; the input reads as it did. -/
def fnExactFillingWinsSpec : ChangeSpec := { name := "fnExactFillingWins", fn := fun _ => fun
  | [d1, d2, d3] => { results := [.lit (.bool true)], args := [d1, d2, d3] }
  | _ => none }
def fnExactFillingWinsRow : OpenClaim := { program := "ytbjcabphiddjgaa", sum := "e9aaf6e77280746afa72929a28dc535fda746a6b14fa8b6dea6fb425eadbebd3", func := "loop.example/g01158/laws.FnExactFillingWins", spec := "fnExactFillingWins", unfollowed := true, recurses := true, apart := false }
def FnExactFillingWinsSaid : Prop := fnExactFillingWinsRow.holds Try.pinned (OpenSpec.ofChange fnExactFillingWinsSpec)

/-- ITS FALSE NEIGHBOUR: 'it returns false'. Refute it at one input. -/
def fnExactFillingWinsWrong : ChangeSpec := { name := "fnExactFillingWins", fn := fun _ => fun
  | [d1, d2, d3] => { results := [.lit (.bool false)], args := [d1, d2, d3] }
  | _ => none }
def FnExactFillingWinsWrongFalsely : Prop := fnExactFillingWinsRow.holds Try.pinned (OpenSpec.ofChange fnExactFillingWinsWrong)

/-- 'laws.FnExactFillingDepth': WHATEVER THE INPUT: true; the input reads as it did. -/
def fnExactFillingDepthSpec : ChangeSpec := { name := "fnExactFillingDepth", fn := fun _ => fun
  | [d1, d2, d3] => { results := [.lit (.bool true)], args := [d1, d2, d3] }
  | _ => none }
def fnExactFillingDepthRow : OpenClaim := { program := "ytbjcabphiddjgaa", sum := "e9aaf6e77280746afa72929a28dc535fda746a6b14fa8b6dea6fb425eadbebd3", func := "loop.example/g01158/laws.FnExactFillingDepth", spec := "fnExactFillingDepth", unfollowed := true, recurses := true, apart := false }
def FnExactFillingDepthSaid : Prop := fnExactFillingDepthRow.holds Try.pinned (OpenSpec.ofChange fnExactFillingDepthSpec)

/-- ITS FALSE NEIGHBOUR: 'it returns false'. Refute it at one input. -/
def fnExactFillingDepthWrong : ChangeSpec := { name := "fnExactFillingDepth", fn := fun _ => fun
  | [d1, d2, d3] => { results := [.lit (.bool false)], args := [d1, d2, d3] }
  | _ => none }
def FnExactFillingDepthWrongFalsely : Prop := fnExactFillingDepthRow.holds Try.pinned (OpenSpec.ofChange fnExactFillingDepthWrong)

/- THE SECOND FORM. 'bulk': how many values and letters a reading holds, each counted each time it is reached (what is shared counts as often as it is met; a slice's spare places count too). A statement '..UptoSaid' is the law's where the arguments, and the package variables that the reading takes, are together of bulk at most 1048576: NARROWER than '..Said'. Prove '..Said' where nothing that the law and all that it calls make is longer than what came in: it says more and counts as full. Else prove '..UptoSaid'. A law counts once. -/
mutual
def uptoBulk {H : Type} : DataW H → Nat
  | .lit (.string bytes) => bytes.length + 1
  | .lit _ => 1
  | .nil => 1
  | .ptr d => uptoBulk d + 1
  | .slice elems spare => uptoBulkAll elems + uptoBulkAll spare + 1
  | .agg parts => uptoBulkAll parts + 1
  | .iface _ d => uptoBulk d + 1
  | .map entries => uptoBulkEntries entries + 1
  | .held _ => 1
def uptoBulkAll {H : Type} : List (DataW H) → Nat
  | [] => 0
  | d :: r => uptoBulk d + uptoBulkAll r
def uptoBulkEntries {H : Type} : List (Lit × DataW H) → Nat
  | [] => 0
  | x :: r => uptoBulkEntry x + uptoBulkEntries r
def uptoBulkEntry {H : Type} : Lit × DataW H → Nat
  | (.string bytes, d) => bytes.length + uptoBulk d + 1
  | (_, d) => uptoBulk d + 1
 end
def uptoSmall : (H : Type) → List (DataW H) → Bool := fun _ ds => decide (uptoBulkAll ds ≤ 1048576)
def OpenSpec.upto (s : _root_.Go.ChangeSpec) : _root_.Go.OpenSpec := { _root_.Go.OpenSpec.ofChange s with cond := some uptoSmall }

/-- 'laws.FnExactLastEntryOrder', WHERE WHAT IT READS IS OF BULK AT MOST 1048576: true; the input reads as it did. -/
def fnExactLastEntryOrderUptoRow : OpenClaim := { program := "ytbjcabphiddjgaa", sum := "e9aaf6e77280746afa72929a28dc535fda746a6b14fa8b6dea6fb425eadbebd3", func := "loop.example/g01158/laws.FnExactLastEntryOrder", spec := "fnExactLastEntryOrder", unfollowed := true, recurses := true, apart := false, narrowed := true }
def FnExactLastEntryOrderUptoSaid : Prop := fnExactLastEntryOrderUptoRow.holds Try.pinned (OpenSpec.upto fnExactLastEntryOrderSpec)

/-- 'laws.FnExactNextNodes', WHERE WHAT IT READS IS OF BULK AT MOST 1048576: true; the input reads as it did. -/
def fnExactNextNodesUptoRow : OpenClaim := { program := "ytbjcabphiddjgaa", sum := "e9aaf6e77280746afa72929a28dc535fda746a6b14fa8b6dea6fb425eadbebd3", func := "loop.example/g01158/laws.FnExactNextNodes", spec := "fnExactNextNodes", unfollowed := true, recurses := true, apart := false, narrowed := true }
def FnExactNextNodesUptoSaid : Prop := fnExactNextNodesUptoRow.holds Try.pinned (OpenSpec.upto fnExactNextNodesSpec)

/-- 'laws.FnExactLargestEntrySet', WHERE WHAT IT READS IS OF BULK AT MOST 1048576: true; the input reads as it did. -/
def fnExactLargestEntrySetUptoRow : OpenClaim := { program := "ytbjcabphiddjgaa", sum := "e9aaf6e77280746afa72929a28dc535fda746a6b14fa8b6dea6fb425eadbebd3", func := "loop.example/g01158/laws.FnExactLargestEntrySet", spec := "fnExactLargestEntrySet", unfollowed := true, recurses := true, apart := false, narrowed := true }
def FnExactLargestEntrySetUptoSaid : Prop := fnExactLargestEntrySetUptoRow.holds Try.pinned (OpenSpec.upto fnExactLargestEntrySetSpec)

/-- 'laws.FnExactLatestPlace', WHERE WHAT IT READS IS OF BULK AT MOST 1048576: true; the input reads as it did. -/
def fnExactLatestPlaceUptoRow : OpenClaim := { program := "ytbjcabphiddjgaa", sum := "e9aaf6e77280746afa72929a28dc535fda746a6b14fa8b6dea6fb425eadbebd3", func := "loop.example/g01158/laws.FnExactLatestPlace", spec := "fnExactLatestPlace", unfollowed := true, recurses := true, apart := false, narrowed := true }
def FnExactLatestPlaceUptoSaid : Prop := fnExactLatestPlaceUptoRow.holds Try.pinned (OpenSpec.upto fnExactLatestPlaceSpec)

/-- 'laws.FnExactSetWins', WHERE WHAT IT READS IS OF BULK AT MOST 1048576: true; the input reads as it did. -/
def fnExactSetWinsUptoRow : OpenClaim := { program := "ytbjcabphiddjgaa", sum := "e9aaf6e77280746afa72929a28dc535fda746a6b14fa8b6dea6fb425eadbebd3", func := "loop.example/g01158/laws.FnExactSetWins", spec := "fnExactSetWins", unfollowed := true, recurses := true, apart := false, narrowed := true }
def FnExactSetWinsUptoSaid : Prop := fnExactSetWinsUptoRow.holds Try.pinned (OpenSpec.upto fnExactSetWinsSpec)

/-- 'laws.FnExactSetBars', WHERE WHAT IT READS IS OF BULK AT MOST 1048576: true; the input reads as it did. -/
def fnExactSetBarsUptoRow : OpenClaim := { program := "ytbjcabphiddjgaa", sum := "e9aaf6e77280746afa72929a28dc535fda746a6b14fa8b6dea6fb425eadbebd3", func := "loop.example/g01158/laws.FnExactSetBars", spec := "fnExactSetBars", unfollowed := true, recurses := true, apart := false, narrowed := true }
def FnExactSetBarsUptoSaid : Prop := fnExactSetBarsUptoRow.holds Try.pinned (OpenSpec.upto fnExactSetBarsSpec)

/-- 'laws.FnExactCountWinning', WHERE WHAT IT READS IS OF BULK AT MOST 1048576: true; the input reads as it did. -/
def fnExactCountWinningUptoRow : OpenClaim := { program := "ytbjcabphiddjgaa", sum := "e9aaf6e77280746afa72929a28dc535fda746a6b14fa8b6dea6fb425eadbebd3", func := "loop.example/g01158/laws.FnExactCountWinning", spec := "fnExactCountWinning", unfollowed := true, recurses := true, apart := false, narrowed := true }
def FnExactCountWinningUptoSaid : Prop := fnExactCountWinningUptoRow.holds Try.pinned (OpenSpec.upto fnExactCountWinningSpec)

/-- 'laws.FnExactNeededColours', WHERE WHAT IT READS IS OF BULK AT MOST 1048576: true; the input reads as it did. -/
def fnExactNeededColoursUptoRow : OpenClaim := { program := "ytbjcabphiddjgaa", sum := "e9aaf6e77280746afa72929a28dc535fda746a6b14fa8b6dea6fb425eadbebd3", func := "loop.example/g01158/laws.FnExactNeededColours", spec := "fnExactNeededColours", unfollowed := true, recurses := true, apart := false, narrowed := true }
def FnExactNeededColoursUptoSaid : Prop := fnExactNeededColoursUptoRow.holds Try.pinned (OpenSpec.upto fnExactNeededColoursSpec)

/-- 'laws.FnExactPowerOfColours', WHERE WHAT IT READS IS OF BULK AT MOST 1048576: true; the input reads as it did. -/
def fnExactPowerOfColoursUptoRow : OpenClaim := { program := "ytbjcabphiddjgaa", sum := "e9aaf6e77280746afa72929a28dc535fda746a6b14fa8b6dea6fb425eadbebd3", func := "loop.example/g01158/laws.FnExactPowerOfColours", spec := "fnExactPowerOfColours", unfollowed := true, recurses := true, apart := false, narrowed := true }
def FnExactPowerOfColoursUptoSaid : Prop := fnExactPowerOfColoursUptoRow.holds Try.pinned (OpenSpec.upto fnExactPowerOfColoursSpec)

/-- 'laws.FnExactLayKeys', WHERE WHAT IT READS IS OF BULK AT MOST 1048576: true; the input reads as it did. -/
def fnExactLayKeysUptoRow : OpenClaim := { program := "ytbjcabphiddjgaa", sum := "e9aaf6e77280746afa72929a28dc535fda746a6b14fa8b6dea6fb425eadbebd3", func := "loop.example/g01158/laws.FnExactLayKeys", spec := "fnExactLayKeys", unfollowed := true, recurses := true, apart := false, narrowed := true }
def FnExactLayKeysUptoSaid : Prop := fnExactLayKeysUptoRow.holds Try.pinned (OpenSpec.upto fnExactLayKeysSpec)

/-- 'laws.FnExactFillingWins', WHERE WHAT IT READS IS OF BULK AT MOST 1048576: true; the input reads as it did. -/
def fnExactFillingWinsUptoRow : OpenClaim := { program := "ytbjcabphiddjgaa", sum := "e9aaf6e77280746afa72929a28dc535fda746a6b14fa8b6dea6fb425eadbebd3", func := "loop.example/g01158/laws.FnExactFillingWins", spec := "fnExactFillingWins", unfollowed := true, recurses := true, apart := false, narrowed := true }
def FnExactFillingWinsUptoSaid : Prop := fnExactFillingWinsUptoRow.holds Try.pinned (OpenSpec.upto fnExactFillingWinsSpec)

/-- 'laws.FnExactFillingDepth', WHERE WHAT IT READS IS OF BULK AT MOST 1048576: true; the input reads as it did. -/
def fnExactFillingDepthUptoRow : OpenClaim := { program := "ytbjcabphiddjgaa", sum := "e9aaf6e77280746afa72929a28dc535fda746a6b14fa8b6dea6fb425eadbebd3", func := "loop.example/g01158/laws.FnExactFillingDepth", spec := "fnExactFillingDepth", unfollowed := true, recurses := true, apart := false, narrowed := true }
def FnExactFillingDepthUptoSaid : Prop := fnExactFillingDepthUptoRow.holds Try.pinned (OpenSpec.upto fnExactFillingDepthSpec)

end Rows
end Go.Proofs.Ytbjcabphiddjgaa
