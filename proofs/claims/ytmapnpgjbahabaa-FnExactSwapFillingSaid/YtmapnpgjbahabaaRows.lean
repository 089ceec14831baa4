/-
  No cell of these rows narrows 'for every input' (looked for: loops, veiled, ifaces, maps, wideKeys, modest, calm, conditions, laid).
  DERIVED. THE GIVEN ROWS OF THIS SEAT. 7 by the template 'for every input the law returns true; each argument reads behind the call as it read before'; 0 by the template 'total and deterministic' (their statements: YtmapnpgjbahabaaTotals.lean).
  GIVEN WITH THE SEED: the statements are not yours to turn. If you find one false, say at which input.
  Laid BY PROGRAM, IN A SANDBOX (cutbox-rows.mjs): the forced cells as the released guide's own fill.sh prints them over the translation 3354c47c9515b104… (all of the seat's roots in one cut). By AI agents, Wed Nov 11 2026. No macro, syntax, notation, axiom, sorry.
-/
import Derived.Test.YtmapnpgjbahabaaChecked
import GoSem.Claim
import GoSem.ClaimJoined
import GoSem.ClaimMapViews
import Derived.JoinedTies
import Derived.KernelRfl
namespace Go.Proofs.Ytmapnpgjbahabaa
/- THE CELL 'sum', in the pinned program and in every row, IS THE sha256 OF THE DUMP (.gsa) THAT YtmapnpgjbahabaaProg.lean LOADS. Nothing in Lean hashes anything: it is a label: what it is worth is what the hold of that sum in a sandbox is worth. -/
noncomputable def Try.pinned : Pinned := { name := "ytmapnpgjbahabaa", sum := "3354c47c9515b1042c338465a5225e9ba288d64558e65e44b528891f140946fa", checked := Try.checked }
namespace Rows
def none {H : Type} : Left H := { results := [], args := [] }

/-- 'laws.FnExactIsWorks': WHATEVER THE INPUT: true; the input reads as it did. -/
def fnExactIsWorksSpec : ChangeSpec := { name := "fnExactIsWorks", fn := fun _ => fun
  | [d] => { results := [.lit (.bool true)], args := [d] }
  | _ => none }
def fnExactIsWorksRow : OpenClaim := { program := "ytmapnpgjbahabaa", sum := "3354c47c9515b1042c338465a5225e9ba288d64558e65e44b528891f140946fa", func := "loop.example/g01158/laws.FnExactIsWorks", spec := "fnExactIsWorks", unfollowed := true, recurses := true, apart := false }
def FnExactIsWorksSaid : Prop := fnExactIsWorksRow.holds Try.pinned (OpenSpec.ofChange fnExactIsWorksSpec)

/-- ITS FALSE NEIGHBOUR: 'it returns false'. Refute it at one input. -/
def fnExactIsWorksWrong : ChangeSpec := { name := "fnExactIsWorks", fn := fun _ => fun
  | [d] => { results := [.lit (.bool false)], args := [d] }
  | _ => none }
def FnExactIsWorksWrongFalsely : Prop := fnExactIsWorksRow.holds Try.pinned (OpenSpec.ofChange fnExactIsWorksWrong)

/-- 'laws.FnExactIsFilling': WHATEVER THE INPUT: true; the input reads as it did. -/
def fnExactIsFillingSpec : ChangeSpec := { name := "fnExactIsFilling", fn := fun _ => fun
  | [d1, d2, d3] => { results := [.lit (.bool true)], args := [d1, d2, d3] }
  | _ => none }
def fnExactIsFillingRow : OpenClaim := { program := "ytmapnpgjbahabaa", sum := "3354c47c9515b1042c338465a5225e9ba288d64558e65e44b528891f140946fa", func := "loop.example/g01158/laws.FnExactIsFilling", spec := "fnExactIsFilling", unfollowed := true, recurses := true, apart := false }
def FnExactIsFillingSaid : Prop := fnExactIsFillingRow.holds Try.pinned (OpenSpec.ofChange fnExactIsFillingSpec)

/-- ITS FALSE NEIGHBOUR: 'it returns false'. Refute it at one input. -/
def fnExactIsFillingWrong : ChangeSpec := { name := "fnExactIsFilling", fn := fun _ => fun
  | [d1, d2, d3] => { results := [.lit (.bool false)], args := [d1, d2, d3] }
  | _ => none }
def FnExactIsFillingWrongFalsely : Prop := fnExactIsFillingRow.holds Try.pinned (OpenSpec.ofChange fnExactIsFillingWrong)

/-- 'laws.FnExactSpanOfPulls': WHATEVER THE INPUT: true; the input reads as it did. -/
def fnExactSpanOfPullsSpec : ChangeSpec := { name := "fnExactSpanOfPulls", fn := fun _ => fun
  | [d] => { results := [.lit (.bool true)], args := [d] }
  | _ => none }
def fnExactSpanOfPullsRow : OpenClaim := { program := "ytmapnpgjbahabaa", sum := "3354c47c9515b1042c338465a5225e9ba288d64558e65e44b528891f140946fa", func := "loop.example/g01158/laws.FnExactSpanOfPulls", spec := "fnExactSpanOfPulls", unfollowed := true, recurses := true, apart := false }
def FnExactSpanOfPullsSaid : Prop := fnExactSpanOfPullsRow.holds Try.pinned (OpenSpec.ofChange fnExactSpanOfPullsSpec)

/-- ITS FALSE NEIGHBOUR: 'it returns false'. Refute it at one input. -/
def fnExactSpanOfPullsWrong : ChangeSpec := { name := "fnExactSpanOfPulls", fn := fun _ => fun
  | [d] => { results := [.lit (.bool false)], args := [d] }
  | _ => none }
def FnExactSpanOfPullsWrongFalsely : Prop := fnExactSpanOfPullsRow.holds Try.pinned (OpenSpec.ofChange fnExactSpanOfPullsWrong)

/-- 'laws.FnExactLocksOf': WHATEVER THE INPUT: true; the input reads as it did. -/
def fnExactLocksOfSpec : ChangeSpec := { name := "fnExactLocksOf", fn := fun _ => fun
  | [d] => { results := [.lit (.bool true)], args := [d] }
  | _ => none }
def fnExactLocksOfRow : OpenClaim := { program := "ytmapnpgjbahabaa", sum := "3354c47c9515b1042c338465a5225e9ba288d64558e65e44b528891f140946fa", func := "loop.example/g01158/laws.FnExactLocksOf", spec := "fnExactLocksOf", unfollowed := true, recurses := true, apart := false }
def FnExactLocksOfSaid : Prop := fnExactLocksOfRow.holds Try.pinned (OpenSpec.ofChange fnExactLocksOfSpec)

/-- ITS FALSE NEIGHBOUR: 'it returns false'. Refute it at one input. -/
def fnExactLocksOfWrong : ChangeSpec := { name := "fnExactLocksOf", fn := fun _ => fun
  | [d] => { results := [.lit (.bool false)], args := [d] }
  | _ => none }
def FnExactLocksOfWrongFalsely : Prop := fnExactLocksOfRow.holds Try.pinned (OpenSpec.ofChange fnExactLocksOfWrong)

/-- 'laws.FnExactGateOpen': WHATEVER THE INPUT: true; the input reads as it did. -/
def fnExactGateOpenSpec : ChangeSpec := { name := "fnExactGateOpen", fn := fun _ => fun
  | [d1, d2, d3] => { results := [.lit (.bool true)], args := [d1, d2, d3] }
  | _ => none }
def fnExactGateOpenRow : OpenClaim := { program := "ytmapnpgjbahabaa", sum := "3354c47c9515b1042c338465a5225e9ba288d64558e65e44b528891f140946fa", func := "loop.example/g01158/laws.FnExactGateOpen", spec := "fnExactGateOpen", unfollowed := true, recurses := true, apart := false }
def FnExactGateOpenSaid : Prop := fnExactGateOpenRow.holds Try.pinned (OpenSpec.ofChange fnExactGateOpenSpec)

/-- ITS FALSE NEIGHBOUR: 'it returns false'. Refute it at one input. -/
def fnExactGateOpenWrong : ChangeSpec := { name := "fnExactGateOpen", fn := fun _ => fun
  | [d1, d2, d3] => { results := [.lit (.bool false)], args := [d1, d2, d3] }
  | _ => none }
def FnExactGateOpenWrongFalsely : Prop := fnExactGateOpenRow.holds Try.pinned (OpenSpec.ofChange fnExactGateOpenWrong)

/-- 'laws.FnExactLockNeeds': WHATEVER THE INPUT: true; the input reads as it did. -/
def fnExactLockNeedsSpec : ChangeSpec := { name := "fnExactLockNeeds", fn := fun _ => fun
  | [d] => { results := [.lit (.bool true)], args := [d] }
  | _ => none }
def fnExactLockNeedsRow : OpenClaim := { program := "ytmapnpgjbahabaa", sum := "3354c47c9515b1042c338465a5225e9ba288d64558e65e44b528891f140946fa", func := "loop.example/g01158/laws.FnExactLockNeeds", spec := "fnExactLockNeeds", unfollowed := true, recurses := true, apart := false }
def FnExactLockNeedsSaid : Prop := fnExactLockNeedsRow.holds Try.pinned (OpenSpec.ofChange fnExactLockNeedsSpec)

/-- ITS FALSE NEIGHBOUR: 'it returns false'. Refute it at one input. -/
def fnExactLockNeedsWrong : ChangeSpec := { name := "fnExactLockNeeds", fn := fun _ => fun
  | [d] => { results := [.lit (.bool false)], args := [d] }
  | _ => none }
def FnExactLockNeedsWrongFalsely : Prop := fnExactLockNeedsRow.holds Try.pinned (OpenSpec.ofChange fnExactLockNeedsWrong)

/-- 'laws.FnExactSwapFilling': WHATEVER THE INPUT: true; the input reads as it did. -/
def fnExactSwapFillingSpec : ChangeSpec := { name := "fnExactSwapFilling", fn := fun _ => fun
  | [d1, d2, d3, d4, d5] => { results := [.lit (.bool true)], args := [d1, d2, d3, d4, d5] }
  | _ => none }
def fnExactSwapFillingRow : OpenClaim := { program := "ytmapnpgjbahabaa", sum := "3354c47c9515b1042c338465a5225e9ba288d64558e65e44b528891f140946fa", func := "loop.example/g01158/laws.FnExactSwapFilling", spec := "fnExactSwapFilling", unfollowed := true, recurses := true, apart := false }
def FnExactSwapFillingSaid : Prop := fnExactSwapFillingRow.holds Try.pinned (OpenSpec.ofChange fnExactSwapFillingSpec)

/-- ITS FALSE NEIGHBOUR: 'it returns false'. Refute it at one input. -/
def fnExactSwapFillingWrong : ChangeSpec := { name := "fnExactSwapFilling", fn := fun _ => fun
  | [d1, d2, d3, d4, d5] => { results := [.lit (.bool false)], args := [d1, d2, d3, d4, d5] }
  | _ => none }
def FnExactSwapFillingWrongFalsely : Prop := fnExactSwapFillingRow.holds Try.pinned (OpenSpec.ofChange fnExactSwapFillingWrong)

/- THE SECOND FORM. 'bulk': how many values and letters a reading holds, each counted each time it is reached (what is shared counts as often as it is met; a slice's spare places count too). A statement '..UptoSaid' is the law's where the arguments, and the package variables that the reading takes, are together of bulk at most 1048576: NARROWER than '..Said'. Prove '..Said' where nothing that the law and all that it calls make is longer than what came in: it says more and counts as full. Else prove '..UptoSaid'. A law counts once. -/
mutual
def uptoBulk {H : Type} : DataW H → Nat
  | .lit (.string bytes) => bytes.length + 1
  | .lit _ => 1
  | .nil => 1
  | .ptr d => uptoBulk d + 1
  | .slice elems spare => uptoBulkAll elems + uptoBulkAll spare + 1
  | .agg parts => uptoBulkAll parts + 1
  | .iface _ d => uptoBulk d + 1
  | .map entries => uptoBulkEntries entries + 1
  | .held _ => 1
def uptoBulkAll {H : Type} : List (DataW H) → Nat
  | [] => 0
  | d :: r => uptoBulk d + uptoBulkAll r
def uptoBulkEntries {H : Type} : List (Lit × DataW H) → Nat
  | [] => 0
  | x :: r => uptoBulkEntry x + uptoBulkEntries r
def uptoBulkEntry {H : Type} : Lit × DataW H → Nat
  | (.string bytes, d) => bytes.length + uptoBulk d + 1
  | (_, d) => uptoBulk d + 1
 end
def uptoSmall : (H : Type) → List (DataW H) → Bool := fun _ ds => decide (uptoBulkAll ds ≤ 1048576)
def OpenSpec.upto (s : _root_.Go.ChangeSpec) : _root_.Go.OpenSpec := { _root_.Go.OpenSpec.ofChange s with cond := some uptoSmall }

/-- 'laws.FnExactIsWorks', WHERE WHAT IT READS IS OF BULK AT MOST 1048576: true; the input reads as it did. -/
def fnExactIsWorksUptoRow : OpenClaim := { program := "ytmapnpgjbahabaa", sum := "3354c47c9515b1042c338465a5225e9ba288d64558e65e44b528891f140946fa", func := "loop.example/g01158/laws.FnExactIsWorks", spec := "fnExactIsWorks", unfollowed := true, recurses := true, apart := false, narrowed := true }
def FnExactIsWorksUptoSaid : Prop := fnExactIsWorksUptoRow.holds Try.pinned (OpenSpec.upto fnExactIsWorksSpec)

/-- 'laws.FnExactIsFilling', WHERE WHAT IT READS IS OF BULK AT MOST 1048576: true; the input reads as it did. -/
def fnExactIsFillingUptoRow : OpenClaim := { program := "ytmapnpgjbahabaa", sum := "3354c47c9515b1042c338465a5225e9ba288d64558e65e44b528891f140946fa", func := "loop.example/g01158/laws.FnExactIsFilling", spec := "fnExactIsFilling", unfollowed := true, recurses := true, apart := false, narrowed := true }
def FnExactIsFillingUptoSaid : Prop := fnExactIsFillingUptoRow.holds Try.pinned (OpenSpec.upto fnExactIsFillingSpec)

/-- 'laws.FnExactSpanOfPulls', WHERE WHAT IT READS IS OF BULK AT MOST 1048576: true; the input reads as it did. -/
def fnExactSpanOfPullsUptoRow : OpenClaim := { program := "ytmapnpgjbahabaa", sum := "3354c47c9515b1042c338465a5225e9ba288d64558e65e44b528891f140946fa", func := "loop.example/g01158/laws.FnExactSpanOfPulls", spec := "fnExactSpanOfPulls", unfollowed := true, recurses := true, apart := false, narrowed := true }
def FnExactSpanOfPullsUptoSaid : Prop := fnExactSpanOfPullsUptoRow.holds Try.pinned (OpenSpec.upto fnExactSpanOfPullsSpec)

/-- 'laws.FnExactLocksOf', WHERE WHAT IT READS IS OF BULK AT MOST 1048576: true; the input reads as it did. -/
def fnExactLocksOfUptoRow : OpenClaim := { program := "ytmapnpgjbahabaa", sum := "3354c47c9515b1042c338465a5225e9ba288d64558e65e44b528891f140946fa", func := "loop.example/g01158/laws.FnExactLocksOf", spec := "fnExactLocksOf", unfollowed := true, recurses := true, apart := false, narrowed := true }
def FnExactLocksOfUptoSaid : Prop := fnExactLocksOfUptoRow.holds Try.pinned (OpenSpec.upto fnExactLocksOfSpec)

/-- 'laws.FnExactGateOpen', WHERE WHAT IT READS IS OF BULK AT MOST 1048576: true; the input reads as it did. -/
def fnExactGateOpenUptoRow : OpenClaim := { program := "ytmapnpgjbahabaa", sum := "3354c47c9515b1042c338465a5225e9ba288d64558e65e44b528891f140946fa", func := "loop.example/g01158/laws.FnExactGateOpen", spec := "fnExactGateOpen", unfollowed := true, recurses := true, apart := false, narrowed := true }
def FnExactGateOpenUptoSaid : Prop := fnExactGateOpenUptoRow.holds Try.pinned (OpenSpec.upto fnExactGateOpenSpec)

/-- 'laws.FnExactLockNeeds', WHERE WHAT IT READS IS OF BULK AT MOST 1048576: true; the input reads as it did. -/
def fnExactLockNeedsUptoRow : OpenClaim := { program := "ytmapnpgjbahabaa", sum := "3354c47c9515b1042c338465a5225e9ba288d64558e65e44b528891f140946fa", func := "loop.example/g01158/laws.FnExactLockNeeds", spec := "fnExactLockNeeds", unfollowed := true, recurses := true, apart := false, narrowed := true }
def FnExactLockNeedsUptoSaid : Prop := fnExactLockNeedsUptoRow.holds Try.pinned (OpenSpec.upto fnExactLockNeedsSpec)

/-- 'laws.FnExactSwapFilling', WHERE WHAT IT READS IS OF BULK AT MOST 1048576: true; the input reads as it did. -/
def fnExactSwapFillingUptoRow : OpenClaim := { program := "ytmapnpgjbahabaa", sum := "3354c47c9515b1042c338465a5225e9ba288d64558e65e44b528891f140946fa", func := "loop.example/g01158/laws.FnExactSwapFilling", spec := "fnExactSwapFilling", unfollowed := true, recurses := true, apart := false, narrowed := true }
def FnExactSwapFillingUptoSaid : Prop := fnExactSwapFillingUptoRow.holds Try.pinned (OpenSpec.upto fnExactSwapFillingSpec)

end Rows
end Go.Proofs.Ytmapnpgjbahabaa
