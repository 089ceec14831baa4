/-
  No cell of these rows narrows 'for every input' (looked for: loops, veiled, ifaces, maps, wideKeys, modest, calm, conditions, laid).
  DERIVED. THE GIVEN ROWS OF THIS SEAT. 4 by the template 'for every input the law returns true; each argument reads behind the call as it read before'; 0 by the template 'total and deterministic' (their statements: YtbaahghfjmkeoaaTotals.lean).
  GIVEN WITH THE SEED: the statements are not yours to turn. If you find one false, say at which input.
  Laid BY PROGRAM, IN A SANDBOX (cutbox-rows.mjs): the forced cells as the released guide's own fill.sh prints them over the translation 8380b4a719a66bc9… (all of the seat's roots in one cut). By AI agents, Wed Nov 11 2026. No macro, syntax, notation, axiom, sorry.
-/
import Derived.Test.YtbaahghfjmkeoaaChecked
import GoSem.Claim
import GoSem.ClaimJoined
import GoSem.ClaimMapViews
import Derived.JoinedTies
import Derived.KernelRfl
namespace Go.Proofs.Ytbaahghfjmkeoaa
/- THE CELL 'sum', in the pinned program and in every row, IS THE sha256 OF THE DUMP (.gsa) THAT YtbaahghfjmkeoaaProg.lean LOADS. Nothing in Lean hashes anything: it is a label: what it is worth is what the hold of that sum in a sandbox is worth. -/
noncomputable def Try.pinned : Pinned := { name := "ytbaahghfjmkeoaa", sum := "8380b4a719a66bc9a69a3548eec83a90f095179e0076e26d04f78f2a9cb08ca3", checked := Try.checked }
namespace Rows
def none {H : Type} : Left H := { results := [], args := [] }

/-- 'laws.FnExactHopefulLocks': WHATEVER THE INPUT: true; the input reads as it did. -/
def fnExactHopefulLocksSpec : ChangeSpec := { name := "fnExactHopefulLocks", fn := fun _ => fun
  | [d1, d2] => { results := [.lit (.bool true)], args := [d1, d2] }
  | _ => none }
def fnExactHopefulLocksRow : OpenClaim := { program := "ytbaahghfjmkeoaa", sum := "8380b4a719a66bc9a69a3548eec83a90f095179e0076e26d04f78f2a9cb08ca3", func := "loop.example/g01158/laws.FnExactHopefulLocks", spec := "fnExactHopefulLocks", unfollowed := true, recurses := true, apart := false }
def FnExactHopefulLocksSaid : Prop := fnExactHopefulLocksRow.holds Try.pinned (OpenSpec.ofChange fnExactHopefulLocksSpec)

/-- ITS FALSE NEIGHBOUR: 'it returns false'. Refute it at one input. -/
def fnExactHopefulLocksWrong : ChangeSpec := { name := "fnExactHopefulLocks", fn := fun _ => fun
  | [d1, d2] => { results := [.lit (.bool false)], args := [d1, d2] }
  | _ => none }
def FnExactHopefulLocksWrongFalsely : Prop := fnExactHopefulLocksRow.holds Try.pinned (OpenSpec.ofChange fnExactHopefulLocksWrong)

/-- 'laws.FnExactLayKeys': WHATEVER THE INPUT: true; the input reads as it did. -/
def fnExactLayKeysSpec : ChangeSpec := { name := "fnExactLayKeys", fn := fun _ => fun
  | [d1, d2, d3] => { results := [.lit (.bool true)], args := [d1, d2, d3] }
  | _ => none }
def fnExactLayKeysRow : OpenClaim := { program := "ytbaahghfjmkeoaa", sum := "8380b4a719a66bc9a69a3548eec83a90f095179e0076e26d04f78f2a9cb08ca3", func := "loop.example/g01158/laws.FnExactLayKeys", spec := "fnExactLayKeys", unfollowed := true, recurses := true, apart := false }
def FnExactLayKeysSaid : Prop := fnExactLayKeysRow.holds Try.pinned (OpenSpec.ofChange fnExactLayKeysSpec)

/-- ITS FALSE NEIGHBOUR: 'it returns false'. Refute it at one input. -/
def fnExactLayKeysWrong : ChangeSpec := { name := "fnExactLayKeys", fn := fun _ => fun
  | [d1, d2, d3] => { results := [.lit (.bool false)], args := [d1, d2, d3] }
  | _ => none }
def FnExactLayKeysWrongFalsely : Prop := fnExactLayKeysRow.holds Try.pinned (OpenSpec.ofChange fnExactLayKeysWrong)

/-- 'laws.FnSafe': WHATEVER THE INPUT: true; the input reads as it did. -/
def fnSafeSpec : ChangeSpec := { name := "fnSafe", fn := fun _ => fun
  | [d] => { results := [.lit (.bool true)], args := [d] }
  | _ => none }
def fnSafeRow : OpenClaim := { program := "ytbaahghfjmkeoaa", sum := "8380b4a719a66bc9a69a3548eec83a90f095179e0076e26d04f78f2a9cb08ca3", func := "loop.example/g01158/laws.FnSafe", spec := "fnSafe", unfollowed := true, recurses := true, apart := false }
def FnSafeSaid : Prop := fnSafeRow.holds Try.pinned (OpenSpec.ofChange fnSafeSpec)

/-- ITS FALSE NEIGHBOUR: 'it returns false'. Refute it at one input. -/
def fnSafeWrong : ChangeSpec := { name := "fnSafe", fn := fun _ => fun
  | [d] => { results := [.lit (.bool false)], args := [d] }
  | _ => none }
def FnSafeWrongFalsely : Prop := fnSafeRow.holds Try.pinned (OpenSpec.ofChange fnSafeWrong)

/-- 'laws.FnSpent': WHATEVER THE INPUT: true; the input reads as it did. -/
def fnSpentSpec : ChangeSpec := { name := "fnSpent", fn := fun _ => fun
  | [d] => { results := [.lit (.bool true)], args := [d] }
  | _ => none }
def fnSpentRow : OpenClaim := { program := "ytbaahghfjmkeoaa", sum := "8380b4a719a66bc9a69a3548eec83a90f095179e0076e26d04f78f2a9cb08ca3", func := "loop.example/g01158/laws.FnSpent", spec := "fnSpent", unfollowed := true, recurses := true, apart := false }
def FnSpentSaid : Prop := fnSpentRow.holds Try.pinned (OpenSpec.ofChange fnSpentSpec)

/-- ITS FALSE NEIGHBOUR: 'it returns false'. Refute it at one input. -/
def fnSpentWrong : ChangeSpec := { name := "fnSpent", fn := fun _ => fun
  | [d] => { results := [.lit (.bool false)], args := [d] }
  | _ => none }
def FnSpentWrongFalsely : Prop := fnSpentRow.holds Try.pinned (OpenSpec.ofChange fnSpentWrong)

/- THE SECOND FORM. 'bulk': how many values and letters a reading holds, each counted each time it is reached (what is shared counts as often as it is met; a slice's spare places count too). A statement '..UptoSaid' is the law's where the arguments, and the package variables that the reading takes, are together of bulk at most 1048576: NARROWER than '..Said'. Prove '..Said' where nothing that the law and all that it calls make is longer than what came in: it says more and counts as full. Else prove '..UptoSaid'. A law counts once. -/
mutual
def uptoBulk {H : Type} : DataW H → Nat
  | .lit (.string bytes) => bytes.length + 1
  | .lit _ => 1
  | .nil => 1
  | .ptr d => uptoBulk d + 1
  | .slice elems spare => uptoBulkAll elems + uptoBulkAll spare + 1
  | .agg parts => uptoBulkAll parts + 1
  | .iface _ d => uptoBulk d + 1
  | .map entries => uptoBulkEntries entries + 1
  | .held _ => 1
def uptoBulkAll {H : Type} : List (DataW H) → Nat
  | [] => 0
  | d :: r => uptoBulk d + uptoBulkAll r
def uptoBulkEntries {H : Type} : List (Lit × DataW H) → Nat
  | [] => 0
  | x :: r => uptoBulkEntry x + uptoBulkEntries r
def uptoBulkEntry {H : Type} : Lit × DataW H → Nat
  | (.string bytes, d) => bytes.length + uptoBulk d + 1
  | (_, d) => uptoBulk d + 1
 end
def uptoSmall : (H : Type) → List (DataW H) → Bool := fun _ ds => decide (uptoBulkAll ds ≤ 1048576)
def OpenSpec.upto (s : _root_.Go.ChangeSpec) : _root_.Go.OpenSpec := { _root_.Go.OpenSpec.ofChange s with cond := some uptoSmall }

/-- 'laws.FnExactHopefulLocks', WHERE WHAT IT READS IS OF BULK AT MOST 1048576: true; the input reads as it did. -/
def fnExactHopefulLocksUptoRow : OpenClaim := { program := "ytbaahghfjmkeoaa", sum := "8380b4a719a66bc9a69a3548eec83a90f095179e0076e26d04f78f2a9cb08ca3", func := "loop.example/g01158/laws.FnExactHopefulLocks", spec := "fnExactHopefulLocks", unfollowed := true, recurses := true, apart := false, narrowed := true }
def FnExactHopefulLocksUptoSaid : Prop := fnExactHopefulLocksUptoRow.holds Try.pinned (OpenSpec.upto fnExactHopefulLocksSpec)

/-- 'laws.FnExactLayKeys', WHERE WHAT IT READS IS OF BULK AT MOST 1048576: true; the input reads as it did. -/
def fnExactLayKeysUptoRow : OpenClaim := { program := "ytbaahghfjmkeoaa", sum := "8380b4a719a66bc9a69a3548eec83a90f095179e0076e26d04f78f2a9cb08ca3", func := "loop.example/g01158/laws.FnExactLayKeys", spec := "fnExactLayKeys", unfollowed := true, recurses := true, apart := false, narrowed := true }
def FnExactLayKeysUptoSaid : Prop := fnExactLayKeysUptoRow.holds Try.pinned (OpenSpec.upto fnExactLayKeysSpec)

/-- 'laws.FnSafe', WHERE WHAT IT READS IS OF BULK AT MOST 1048576: true; the input reads as it did. -/
def fnSafeUptoRow : OpenClaim := { program := "ytbaahghfjmkeoaa", sum := "8380b4a719a66bc9a69a3548eec83a90f095179e0076e26d04f78f2a9cb08ca3", func := "loop.example/g01158/laws.FnSafe", spec := "fnSafe", unfollowed := true, recurses := true, apart := false, narrowed := true }
def FnSafeUptoSaid : Prop := fnSafeUptoRow.holds Try.pinned (OpenSpec.upto fnSafeSpec)

/-- 'laws.FnSpent', WHERE WHAT IT READS IS OF BULK AT MOST 1048576: true; the input reads as it did. -/
def fnSpentUptoRow : OpenClaim := { program := "ytbaahghfjmkeoaa", sum := "8380b4a719a66bc9a69a3548eec83a90f095179e0076e26d04f78f2a9cb08ca3", func := "loop.example/g01158/laws.FnSpent", spec := "fnSpent", unfollowed := true, recurses := true, apart := false, narrowed := true }
def FnSpentUptoSaid : Prop := fnSpentUptoRow.holds Try.pinned (OpenSpec.upto fnSpentSpec)

end Rows
end Go.Proofs.Ytbaahghfjmkeoaa
