/-
  No cell of these rows narrows 'for every input' (looked for: loops, veiled, ifaces, maps, wideKeys, modest, calm, conditions, laid).
  DERIVED. THE GIVEN ROWS OF THIS SEAT. 4 by the template 'for every input the law returns true; each argument reads behind the call as it read before'; 0 by the template 'total and deterministic' (their statements: YtcjcgcgcloanpaaTotals.lean).
  GIVEN WITH THE SEED: the statements are not yours to turn. If you find one false, say at which input.
  Laid BY PROGRAM, IN A SANDBOX (cutbox-rows.mjs): the forced cells as the released guide's own fill.sh prints them over the translation 6fad76152787fee6… (all of the seat's roots in one cut). By AI agents, Wed Nov 11 2026. No macro, syntax, notation, axiom, sorry.
-/
import Derived.Test.YtcjcgcgcloanpaaChecked
import GoSem.Claim
import GoSem.ClaimJoined
import GoSem.ClaimMapViews
import Derived.JoinedTies
import Derived.KernelRfl
namespace Go.Proofs.Ytcjcgcgcloanpaa
/- THE CELL 'sum', in the pinned program and in every row, IS THE sha256 OF THE DUMP (.gsa) THAT YtcjcgcgcloanpaaProg.lean LOADS. Nothing in Lean hashes anything: it is a label: what it is worth is what the hold of that sum in a sandbox is worth. -/
noncomputable def Try.pinned : Pinned := { name := "ytcjcgcgcloanpaa", sum := "6fad76152787fee688116385bfc84b19beb57b9ac70a74a14f4b3b1c9a0d6098", checked := Try.checked }
namespace Rows
def none {H : Type} : Left H := { results := [], args := [] }

/-- 'laws.FnSpent': WHATEVER THE INPUT: true; the input reads as it did. -/
def fnSpentSpec : ChangeSpec := { name := "fnSpent", fn := fun _ => fun
  | [d] => { results := [.lit (.bool true)], args := [d] }
  | _ => none }
def fnSpentRow : OpenClaim := { program := "ytcjcgcgcloanpaa", sum := "6fad76152787fee688116385bfc84b19beb57b9ac70a74a14f4b3b1c9a0d6098", func := "loop.example/g01158/laws.FnSpent", spec := "fnSpent", unfollowed := true, recurses := true, apart := false }
def FnSpentSaid : Prop := fnSpentRow.holds Try.pinned (OpenSpec.ofChange fnSpentSpec)

/-- ITS FALSE NEIGHBOUR: 'it returns false'. Refute it at one input. -/
def fnSpentWrong : ChangeSpec := { name := "fnSpent", fn := fun _ => fun
  | [d] => { results := [.lit (.bool false)], args := [d] }
  | _ => none }
def FnSpentWrongFalsely : Prop := fnSpentRow.holds Try.pinned (OpenSpec.ofChange fnSpentWrong)

/-- 'laws.FnSafe': WHATEVER THE INPUT: true; the input reads as it did. -/
def fnSafeSpec : ChangeSpec := { name := "fnSafe", fn := fun _ => fun
  | [d] => { results := [.lit (.bool true)], args := [d] }
  | _ => none }
def fnSafeRow : OpenClaim := { program := "ytcjcgcgcloanpaa", sum := "6fad76152787fee688116385bfc84b19beb57b9ac70a74a14f4b3b1c9a0d6098", func := "loop.example/g01158/laws.FnSafe", spec := "fnSafe", unfollowed := true, recurses := true, apart := false }
def FnSafeSaid : Prop := fnSafeRow.holds Try.pinned (OpenSpec.ofChange fnSafeSpec)

/-- ITS FALSE NEIGHBOUR: 'it returns false'. Refute it at one input. -/
def fnSafeWrong : ChangeSpec := { name := "fnSafe", fn := fun _ => fun
  | [d] => { results := [.lit (.bool false)], args := [d] }
  | _ => none }
def FnSafeWrongFalsely : Prop := fnSafeRow.holds Try.pinned (OpenSpec.ofChange fnSafeWrong)

/-- 'laws.FnHints': WHATEVER THE INPUT: true; the input reads as it did. -/
def fnHintsSpec : ChangeSpec := { name := "fnHints", fn := fun _ => fun
  | [d] => { results := [.lit (.bool true)], args := [d] }
  | _ => none }
def fnHintsRow : OpenClaim := { program := "ytcjcgcgcloanpaa", sum := "6fad76152787fee688116385bfc84b19beb57b9ac70a74a14f4b3b1c9a0d6098", func := "loop.example/g01158/laws.FnHints", spec := "fnHints", unfollowed := true, recurses := true, apart := false }
def FnHintsSaid : Prop := fnHintsRow.holds Try.pinned (OpenSpec.ofChange fnHintsSpec)

/-- ITS FALSE NEIGHBOUR: 'it returns false'. Refute it at one input. -/
def fnHintsWrong : ChangeSpec := { name := "fnHints", fn := fun _ => fun
  | [d] => { results := [.lit (.bool false)], args := [d] }
  | _ => none }
def FnHintsWrongFalsely : Prop := fnHintsRow.holds Try.pinned (OpenSpec.ofChange fnHintsWrong)

/-- 'laws.FnEntries': WHATEVER THE INPUT: true; the input reads as it did. -/
def fnEntriesSpec : ChangeSpec := { name := "fnEntries", fn := fun _ => fun
  | [d] => { results := [.lit (.bool true)], args := [d] }
  | _ => none }
def fnEntriesRow : OpenClaim := { program := "ytcjcgcgcloanpaa", sum := "6fad76152787fee688116385bfc84b19beb57b9ac70a74a14f4b3b1c9a0d6098", func := "loop.example/g01158/laws.FnEntries", spec := "fnEntries", unfollowed := true, recurses := true, apart := false }
def FnEntriesSaid : Prop := fnEntriesRow.holds Try.pinned (OpenSpec.ofChange fnEntriesSpec)

/-- ITS FALSE NEIGHBOUR: 'it returns false'. Refute it at one input. -/
def fnEntriesWrong : ChangeSpec := { name := "fnEntries", fn := fun _ => fun
  | [d] => { results := [.lit (.bool false)], args := [d] }
  | _ => none }
def FnEntriesWrongFalsely : Prop := fnEntriesRow.holds Try.pinned (OpenSpec.ofChange fnEntriesWrong)

/- THE SECOND FORM. 'bulk': how many values and letters a reading holds, each counted each time it is reached (what is shared counts as often as it is met; a slice's spare places count too). A statement '..UptoSaid' is the law's where the arguments, and the package variables that the reading takes, are together of bulk at most 1048576: NARROWER than '..Said'. Prove '..Said' where nothing that the law and all that it calls make is longer than what came in: it says more and counts as full. Else prove '..UptoSaid'. A law counts once. -/
mutual
def uptoBulk {H : Type} : DataW H → Nat
  | .lit (.string bytes) => bytes.length + 1
  | .lit _ => 1
  | .nil => 1
  | .ptr d => uptoBulk d + 1
  | .slice elems spare => uptoBulkAll elems + uptoBulkAll spare + 1
  | .agg parts => uptoBulkAll parts + 1
  | .iface _ d => uptoBulk d + 1
  | .map entries => uptoBulkEntries entries + 1
  | .held _ => 1
def uptoBulkAll {H : Type} : List (DataW H) → Nat
  | [] => 0
  | d :: r => uptoBulk d + uptoBulkAll r
def uptoBulkEntries {H : Type} : List (Lit × DataW H) → Nat
  | [] => 0
  | x :: r => uptoBulkEntry x + uptoBulkEntries r
def uptoBulkEntry {H : Type} : Lit × DataW H → Nat
  | (.string bytes, d) => bytes.length + uptoBulk d + 1
  | (_, d) => uptoBulk d + 1
 end
def uptoSmall : (H : Type) → List (DataW H) → Bool := fun _ ds => decide (uptoBulkAll ds ≤ 1048576)
def OpenSpec.upto (s : _root_.Go.ChangeSpec) : _root_.Go.OpenSpec := { _root_.Go.OpenSpec.ofChange s with cond := some uptoSmall }

/-- 'laws.FnSpent', WHERE WHAT IT READS IS OF BULK AT MOST 1048576: true; the input reads as it did. -/
def fnSpentUptoRow : OpenClaim := { program := "ytcjcgcgcloanpaa", sum := "6fad76152787fee688116385bfc84b19beb57b9ac70a74a14f4b3b1c9a0d6098", func := "loop.example/g01158/laws.FnSpent", spec := "fnSpent", unfollowed := true, recurses := true, apart := false, narrowed := true }
def FnSpentUptoSaid : Prop := fnSpentUptoRow.holds Try.pinned (OpenSpec.upto fnSpentSpec)

/-- 'laws.FnSafe', WHERE WHAT IT READS IS OF BULK AT MOST 1048576: true; the input reads as it did. -/
def fnSafeUptoRow : OpenClaim := { program := "ytcjcgcgcloanpaa", sum := "6fad76152787fee688116385bfc84b19beb57b9ac70a74a14f4b3b1c9a0d6098", func := "loop.example/g01158/laws.FnSafe", spec := "fnSafe", unfollowed := true, recurses := true, apart := false, narrowed := true }
def FnSafeUptoSaid : Prop := fnSafeUptoRow.holds Try.pinned (OpenSpec.upto fnSafeSpec)

/-- 'laws.FnHints', WHERE WHAT IT READS IS OF BULK AT MOST 1048576: true; the input reads as it did. -/
def fnHintsUptoRow : OpenClaim := { program := "ytcjcgcgcloanpaa", sum := "6fad76152787fee688116385bfc84b19beb57b9ac70a74a14f4b3b1c9a0d6098", func := "loop.example/g01158/laws.FnHints", spec := "fnHints", unfollowed := true, recurses := true, apart := false, narrowed := true }
def FnHintsUptoSaid : Prop := fnHintsUptoRow.holds Try.pinned (OpenSpec.upto fnHintsSpec)

/-- 'laws.FnEntries', WHERE WHAT IT READS IS OF BULK AT MOST 1048576: true; the input reads as it did. -/
def fnEntriesUptoRow : OpenClaim := { program := "ytcjcgcgcloanpaa", sum := "6fad76152787fee688116385bfc84b19beb57b9ac70a74a14f4b3b1c9a0d6098", func := "loop.example/g01158/laws.FnEntries", spec := "fnEntries", unfollowed := true, recurses := true, apart := false, narrowed := true }
def FnEntriesUptoSaid : Prop := fnEntriesUptoRow.holds Try.pinned (OpenSpec.upto fnEntriesSpec)

end Rows
end Go.Proofs.Ytcjcgcgcloanpaa
