/-
  No cell of these rows narrows 'for every input' (looked for: loops, veiled, ifaces, maps, wideKeys, modest, calm, conditions, laid).
  DERIVED. THE GIVEN ROWS OF THIS SEAT. 8 by the template 'for every input the law returns true; each argument reads behind the call as it read before'; 0 by the template 'total and deterministic' (their statements: YtldogbahbjompaaTotals.lean).
  GIVEN WITH THE SEED: the statements are not yours to turn. If you find one false, say at which input.
  Laid BY PROGRAM, IN A SANDBOX (cutbox-rows.mjs): the forced cells as the released guide's own fill.sh prints them over the translation fb71a8dc380912a5… (all of the seat's roots in one cut). By AI agents, Wed Nov 11 2026. No macro, syntax, notation, axiom, sorry.
-/
import Derived.Test.YtldogbahbjompaaChecked
import GoSem.Claim
import GoSem.ClaimJoined
import GoSem.ClaimMapViews
import Derived.JoinedTies
import Derived.KernelRfl
namespace Go.Proofs.Ytldogbahbjompaa
/- THE CELL 'sum', in the pinned program and in every row, IS THE sha256 OF THE DUMP (.gsa) THAT YtldogbahbjompaaProg.lean LOADS. Nothing in Lean hashes anything: it is a label: what it is worth is what the hold of that sum in a sandbox is worth. -/
noncomputable def Try.pinned : Pinned := { name := "ytldogbahbjompaa", sum := "fb71a8dc380912a54a14924f926100b5b8ab7f8e248a16d3a492ddcd3b1e0b32", checked := Try.checked }
namespace Rows
def none {H : Type} : Left H := { results := [], args := [] }

/-- 'laws.FnExactHintAt': WHATEVER THE INPUT: true; the input reads as it did. -/
def fnExactHintAtSpec : ChangeSpec := { name := "fnExactHintAt", fn := fun _ => fun
  | [d1, d2] => { results := [.lit (.bool true)], args := [d1, d2] }
  | _ => none }
def fnExactHintAtRow : OpenClaim := { program := "ytldogbahbjompaa", sum := "fb71a8dc380912a54a14924f926100b5b8ab7f8e248a16d3a492ddcd3b1e0b32", func := "loop.example/g01158/laws.FnExactHintAt", spec := "fnExactHintAt", unfollowed := true, recurses := true, apart := false }
def FnExactHintAtSaid : Prop := fnExactHintAtRow.holds Try.pinned (OpenSpec.ofChange fnExactHintAtSpec)

/-- ITS FALSE NEIGHBOUR: 'it returns false'. Refute it at one input. -/
def fnExactHintAtWrong : ChangeSpec := { name := "fnExactHintAt", fn := fun _ => fun
  | [d1, d2] => { results := [.lit (.bool false)], args := [d1, d2] }
  | _ => none }
def FnExactHintAtWrongFalsely : Prop := fnExactHintAtRow.holds Try.pinned (OpenSpec.ofChange fnExactHintAtWrong)

/-- 'laws.FnExactHintColours': WHATEVER THE INPUT: true; the input reads as it did. -/
def fnExactHintColoursSpec : ChangeSpec := { name := "fnExactHintColours", fn := fun _ => fun
  | [d1, d2] => { results := [.lit (.bool true)], args := [d1, d2] }
  | _ => none }
def fnExactHintColoursRow : OpenClaim := { program := "ytldogbahbjompaa", sum := "fb71a8dc380912a54a14924f926100b5b8ab7f8e248a16d3a492ddcd3b1e0b32", func := "loop.example/g01158/laws.FnExactHintColours", spec := "fnExactHintColours", unfollowed := true, recurses := true, apart := false }
def FnExactHintColoursSaid : Prop := fnExactHintColoursRow.holds Try.pinned (OpenSpec.ofChange fnExactHintColoursSpec)

/-- ITS FALSE NEIGHBOUR: 'it returns false'. Refute it at one input. -/
def fnExactHintColoursWrong : ChangeSpec := { name := "fnExactHintColours", fn := fun _ => fun
  | [d1, d2] => { results := [.lit (.bool false)], args := [d1, d2] }
  | _ => none }
def FnExactHintColoursWrongFalsely : Prop := fnExactHintColoursRow.holds Try.pinned (OpenSpec.ofChange fnExactHintColoursWrong)

/-- 'laws.FnExactFewestPulls': WHATEVER THE INPUT: true; the input reads as it did. -/
def fnExactFewestPullsSpec : ChangeSpec := { name := "fnExactFewestPulls", fn := fun _ => fun
  | [d] => { results := [.lit (.bool true)], args := [d] }
  | _ => none }
def fnExactFewestPullsRow : OpenClaim := { program := "ytldogbahbjompaa", sum := "fb71a8dc380912a54a14924f926100b5b8ab7f8e248a16d3a492ddcd3b1e0b32", func := "loop.example/g01158/laws.FnExactFewestPulls", spec := "fnExactFewestPulls", unfollowed := true, recurses := true, apart := false }
def FnExactFewestPullsSaid : Prop := fnExactFewestPullsRow.holds Try.pinned (OpenSpec.ofChange fnExactFewestPullsSpec)

/-- ITS FALSE NEIGHBOUR: 'it returns false'. Refute it at one input. -/
def fnExactFewestPullsWrong : ChangeSpec := { name := "fnExactFewestPulls", fn := fun _ => fun
  | [d] => { results := [.lit (.bool false)], args := [d] }
  | _ => none }
def FnExactFewestPullsWrongFalsely : Prop := fnExactFewestPullsRow.holds Try.pinned (OpenSpec.ofChange fnExactFewestPullsWrong)

/-- 'laws.FnExactReachTable': WHATEVER THE INPUT: true; the input reads as it did. -/
def fnExactReachTableSpec : ChangeSpec := { name := "fnExactReachTable", fn := fun _ => fun
  | [d] => { results := [.lit (.bool true)], args := [d] }
  | _ => none }
def fnExactReachTableRow : OpenClaim := { program := "ytldogbahbjompaa", sum := "fb71a8dc380912a54a14924f926100b5b8ab7f8e248a16d3a492ddcd3b1e0b32", func := "loop.example/g01158/laws.FnExactReachTable", spec := "fnExactReachTable", unfollowed := true, recurses := true, apart := false }
def FnExactReachTableSaid : Prop := fnExactReachTableRow.holds Try.pinned (OpenSpec.ofChange fnExactReachTableSpec)

/-- ITS FALSE NEIGHBOUR: 'it returns false'. Refute it at one input. -/
def fnExactReachTableWrong : ChangeSpec := { name := "fnExactReachTable", fn := fun _ => fun
  | [d] => { results := [.lit (.bool false)], args := [d] }
  | _ => none }
def FnExactReachTableWrongFalsely : Prop := fnExactReachTableRow.holds Try.pinned (OpenSpec.ofChange fnExactReachTableWrong)

/-- 'laws.FnExactTurnLevers': WHATEVER THE INPUT: true; the input reads as it did. -/
def fnExactTurnLeversSpec : ChangeSpec := { name := "fnExactTurnLevers", fn := fun _ => fun
  | [d1, d2] => { results := [.lit (.bool true)], args := [d1, d2] }
  | _ => none }
def fnExactTurnLeversRow : OpenClaim := { program := "ytldogbahbjompaa", sum := "fb71a8dc380912a54a14924f926100b5b8ab7f8e248a16d3a492ddcd3b1e0b32", func := "loop.example/g01158/laws.FnExactTurnLevers", spec := "fnExactTurnLevers", unfollowed := true, recurses := true, apart := false }
def FnExactTurnLeversSaid : Prop := fnExactTurnLeversRow.holds Try.pinned (OpenSpec.ofChange fnExactTurnLeversSpec)

/-- ITS FALSE NEIGHBOUR: 'it returns false'. Refute it at one input. -/
def fnExactTurnLeversWrong : ChangeSpec := { name := "fnExactTurnLevers", fn := fun _ => fun
  | [d1, d2] => { results := [.lit (.bool false)], args := [d1, d2] }
  | _ => none }
def FnExactTurnLeversWrongFalsely : Prop := fnExactTurnLeversRow.holds Try.pinned (OpenSpec.ofChange fnExactTurnLeversWrong)

/-- 'laws.FnExactEntrySets': WHATEVER THE INPUT: true; the input reads as it did. -/
def fnExactEntrySetsSpec : ChangeSpec := { name := "fnExactEntrySets", fn := fun _ => fun
  | [d] => { results := [.lit (.bool true)], args := [d] }
  | _ => none }
def fnExactEntrySetsRow : OpenClaim := { program := "ytldogbahbjompaa", sum := "fb71a8dc380912a54a14924f926100b5b8ab7f8e248a16d3a492ddcd3b1e0b32", func := "loop.example/g01158/laws.FnExactEntrySets", spec := "fnExactEntrySets", unfollowed := true, recurses := true, apart := false }
def FnExactEntrySetsSaid : Prop := fnExactEntrySetsRow.holds Try.pinned (OpenSpec.ofChange fnExactEntrySetsSpec)

/-- ITS FALSE NEIGHBOUR: 'it returns false'. Refute it at one input. -/
def fnExactEntrySetsWrong : ChangeSpec := { name := "fnExactEntrySets", fn := fun _ => fun
  | [d] => { results := [.lit (.bool false)], args := [d] }
  | _ => none }
def FnExactEntrySetsWrongFalsely : Prop := fnExactEntrySetsRow.holds Try.pinned (OpenSpec.ofChange fnExactEntrySetsWrong)

/-- 'laws.FnExactEarliestPlace': WHATEVER THE INPUT: true; the input reads as it did. -/
def fnExactEarliestPlaceSpec : ChangeSpec := { name := "fnExactEarliestPlace", fn := fun _ => fun
  | [d1, d2] => { results := [.lit (.bool true)], args := [d1, d2] }
  | _ => none }
def fnExactEarliestPlaceRow : OpenClaim := { program := "ytldogbahbjompaa", sum := "fb71a8dc380912a54a14924f926100b5b8ab7f8e248a16d3a492ddcd3b1e0b32", func := "loop.example/g01158/laws.FnExactEarliestPlace", spec := "fnExactEarliestPlace", unfollowed := true, recurses := true, apart := false }
def FnExactEarliestPlaceSaid : Prop := fnExactEarliestPlaceRow.holds Try.pinned (OpenSpec.ofChange fnExactEarliestPlaceSpec)

/-- ITS FALSE NEIGHBOUR: 'it returns false'. Refute it at one input. -/
def fnExactEarliestPlaceWrong : ChangeSpec := { name := "fnExactEarliestPlace", fn := fun _ => fun
  | [d1, d2] => { results := [.lit (.bool false)], args := [d1, d2] }
  | _ => none }
def FnExactEarliestPlaceWrongFalsely : Prop := fnExactEarliestPlaceRow.holds Try.pinned (OpenSpec.ofChange fnExactEarliestPlaceWrong)

/-- 'laws.FnExactPathsOf': WHATEVER THE INPUT: true; the input reads as it did. -/
def fnExactPathsOfSpec : ChangeSpec := { name := "fnExactPathsOf", fn := fun _ => fun
  | [d1, d2] => { results := [.lit (.bool true)], args := [d1, d2] }
  | _ => none }
def fnExactPathsOfRow : OpenClaim := { program := "ytldogbahbjompaa", sum := "fb71a8dc380912a54a14924f926100b5b8ab7f8e248a16d3a492ddcd3b1e0b32", func := "loop.example/g01158/laws.FnExactPathsOf", spec := "fnExactPathsOf", unfollowed := true, recurses := true, apart := false }
def FnExactPathsOfSaid : Prop := fnExactPathsOfRow.holds Try.pinned (OpenSpec.ofChange fnExactPathsOfSpec)

/-- ITS FALSE NEIGHBOUR: 'it returns false'. Refute it at one input. -/
def fnExactPathsOfWrong : ChangeSpec := { name := "fnExactPathsOf", fn := fun _ => fun
  | [d1, d2] => { results := [.lit (.bool false)], args := [d1, d2] }
  | _ => none }
def FnExactPathsOfWrongFalsely : Prop := fnExactPathsOfRow.holds Try.pinned (OpenSpec.ofChange fnExactPathsOfWrong)

/- THE SECOND FORM. 'bulk': how many values and letters a reading holds, each counted each time it is reached (what is shared counts as often as it is met; a slice's spare places count too). A statement '..UptoSaid' is the law's where the arguments, and the package variables that the reading takes, are together of bulk at most 1048576: NARROWER than '..Said'. Prove '..Said' where nothing that the law and all that it calls make is longer than what came in: it says more and counts as full. Else prove '..UptoSaid'. A law counts once. -/
mutual
def uptoBulk {H : Type} : DataW H → Nat
  | .lit (.string bytes) => bytes.length + 1
  | .lit _ => 1
  | .nil => 1
  | .ptr d => uptoBulk d + 1
  | .slice elems spare => uptoBulkAll elems + uptoBulkAll spare + 1
  | .agg parts => uptoBulkAll parts + 1
  | .iface _ d => uptoBulk d + 1
  | .map entries => uptoBulkEntries entries + 1
  | .held _ => 1
def uptoBulkAll {H : Type} : List (DataW H) → Nat
  | [] => 0
  | d :: r => uptoBulk d + uptoBulkAll r
def uptoBulkEntries {H : Type} : List (Lit × DataW H) → Nat
  | [] => 0
  | x :: r => uptoBulkEntry x + uptoBulkEntries r
def uptoBulkEntry {H : Type} : Lit × DataW H → Nat
  | (.string bytes, d) => bytes.length + uptoBulk d + 1
  | (_, d) => uptoBulk d + 1
 end
def uptoSmall : (H : Type) → List (DataW H) → Bool := fun _ ds => decide (uptoBulkAll ds ≤ 1048576)
def OpenSpec.upto (s : _root_.Go.ChangeSpec) : _root_.Go.OpenSpec := { _root_.Go.OpenSpec.ofChange s with cond := some uptoSmall }

/-- 'laws.FnExactHintAt', WHERE WHAT IT READS IS OF BULK AT MOST 1048576: true; the input reads as it did. -/
def fnExactHintAtUptoRow : OpenClaim := { program := "ytldogbahbjompaa", sum := "fb71a8dc380912a54a14924f926100b5b8ab7f8e248a16d3a492ddcd3b1e0b32", func := "loop.example/g01158/laws.FnExactHintAt", spec := "fnExactHintAt", unfollowed := true, recurses := true, apart := false, narrowed := true }
def FnExactHintAtUptoSaid : Prop := fnExactHintAtUptoRow.holds Try.pinned (OpenSpec.upto fnExactHintAtSpec)

/-- 'laws.FnExactHintColours', WHERE WHAT IT READS IS OF BULK AT MOST 1048576: true; the input reads as it did. -/
def fnExactHintColoursUptoRow : OpenClaim := { program := "ytldogbahbjompaa", sum := "fb71a8dc380912a54a14924f926100b5b8ab7f8e248a16d3a492ddcd3b1e0b32", func := "loop.example/g01158/laws.FnExactHintColours", spec := "fnExactHintColours", unfollowed := true, recurses := true, apart := false, narrowed := true }
def FnExactHintColoursUptoSaid : Prop := fnExactHintColoursUptoRow.holds Try.pinned (OpenSpec.upto fnExactHintColoursSpec)

/-- 'laws.FnExactFewestPulls', WHERE WHAT IT READS IS OF BULK AT MOST 1048576: true; the input reads as it did. -/
def fnExactFewestPullsUptoRow : OpenClaim := { program := "ytldogbahbjompaa", sum := "fb71a8dc380912a54a14924f926100b5b8ab7f8e248a16d3a492ddcd3b1e0b32", func := "loop.example/g01158/laws.FnExactFewestPulls", spec := "fnExactFewestPulls", unfollowed := true, recurses := true, apart := false, narrowed := true }
def FnExactFewestPullsUptoSaid : Prop := fnExactFewestPullsUptoRow.holds Try.pinned (OpenSpec.upto fnExactFewestPullsSpec)

/-- 'laws.FnExactReachTable', WHERE WHAT IT READS IS OF BULK AT MOST 1048576: true; the input reads as it did. -/
def fnExactReachTableUptoRow : OpenClaim := { program := "ytldogbahbjompaa", sum := "fb71a8dc380912a54a14924f926100b5b8ab7f8e248a16d3a492ddcd3b1e0b32", func := "loop.example/g01158/laws.FnExactReachTable", spec := "fnExactReachTable", unfollowed := true, recurses := true, apart := false, narrowed := true }
def FnExactReachTableUptoSaid : Prop := fnExactReachTableUptoRow.holds Try.pinned (OpenSpec.upto fnExactReachTableSpec)

/-- 'laws.FnExactTurnLevers', WHERE WHAT IT READS IS OF BULK AT MOST 1048576: true; the input reads as it did. -/
def fnExactTurnLeversUptoRow : OpenClaim := { program := "ytldogbahbjompaa", sum := "fb71a8dc380912a54a14924f926100b5b8ab7f8e248a16d3a492ddcd3b1e0b32", func := "loop.example/g01158/laws.FnExactTurnLevers", spec := "fnExactTurnLevers", unfollowed := true, recurses := true, apart := false, narrowed := true }
def FnExactTurnLeversUptoSaid : Prop := fnExactTurnLeversUptoRow.holds Try.pinned (OpenSpec.upto fnExactTurnLeversSpec)

/-- 'laws.FnExactEntrySets', WHERE WHAT IT READS IS OF BULK AT MOST 1048576: true; the input reads as it did. -/
def fnExactEntrySetsUptoRow : OpenClaim := { program := "ytldogbahbjompaa", sum := "fb71a8dc380912a54a14924f926100b5b8ab7f8e248a16d3a492ddcd3b1e0b32", func := "loop.example/g01158/laws.FnExactEntrySets", spec := "fnExactEntrySets", unfollowed := true, recurses := true, apart := false, narrowed := true }
def FnExactEntrySetsUptoSaid : Prop := fnExactEntrySetsUptoRow.holds Try.pinned (OpenSpec.upto fnExactEntrySetsSpec)

/-- 'laws.FnExactEarliestPlace', WHERE WHAT IT READS IS OF BULK AT MOST 1048576: true; the input reads as it did. -/
def fnExactEarliestPlaceUptoRow : OpenClaim := { program := "ytldogbahbjompaa", sum := "fb71a8dc380912a54a14924f926100b5b8ab7f8e248a16d3a492ddcd3b1e0b32", func := "loop.example/g01158/laws.FnExactEarliestPlace", spec := "fnExactEarliestPlace", unfollowed := true, recurses := true, apart := false, narrowed := true }
def FnExactEarliestPlaceUptoSaid : Prop := fnExactEarliestPlaceUptoRow.holds Try.pinned (OpenSpec.upto fnExactEarliestPlaceSpec)

/-- 'laws.FnExactPathsOf', WHERE WHAT IT READS IS OF BULK AT MOST 1048576: true; the input reads as it did. -/
def fnExactPathsOfUptoRow : OpenClaim := { program := "ytldogbahbjompaa", sum := "fb71a8dc380912a54a14924f926100b5b8ab7f8e248a16d3a492ddcd3b1e0b32", func := "loop.example/g01158/laws.FnExactPathsOf", spec := "fnExactPathsOf", unfollowed := true, recurses := true, apart := false, narrowed := true }
def FnExactPathsOfUptoSaid : Prop := fnExactPathsOfUptoRow.holds Try.pinned (OpenSpec.upto fnExactPathsOfSpec)

end Rows
end Go.Proofs.Ytldogbahbjompaa
