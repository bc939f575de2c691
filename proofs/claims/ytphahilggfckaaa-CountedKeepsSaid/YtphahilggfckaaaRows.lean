/-
  No cell of these rows narrows 'for every input' (looked for: loops, veiled, ifaces, maps, wideKeys, modest, calm, conditions, laid).
  DERIVED. THE GIVEN ROWS OF THIS SEAT. 9 by the template 'for every input the law returns true; each argument reads behind the call as it read before'; 0 by the template 'total and deterministic' (their statements: YtphahilggfckaaaTotals.lean).
  GIVEN WITH THE SEED: the statements are not yours to turn. If you find one false, say at which input.
  Laid BY PROGRAM, IN A SANDBOX (cutbox-rows.mjs): the forced cells as the released guide's own fill.sh prints them over the translation 29b7bfc18d89c7a2… (all of the seat's roots in one cut). By AI agents, Wed Nov 11 2026. No macro, syntax, notation, axiom, sorry.
-/
import Derived.Test.YtphahilggfckaaaChecked
import GoSem.Claim
import GoSem.ClaimJoined
import GoSem.ClaimMapViews
import Derived.JoinedTies
import Derived.KernelRfl
namespace Go.Proofs.Ytphahilggfckaaa
/- THE CELL 'sum', in the pinned program and in every row, IS THE sha256 OF THE DUMP (.gsa) THAT YtphahilggfckaaaProg.lean LOADS. Nothing in Lean hashes anything: it is a label: what it is worth is what the hold of that sum in a sandbox is worth. -/
noncomputable def Try.pinned : Pinned := { name := "ytphahilggfckaaa", sum := "29b7bfc18d89c7a218dbd21a206530b7d84b807c9362606b1485e3692f1a153a", checked := Try.checked }
namespace Rows
def none {H : Type} : Left H := { results := [], args := [] }

/-- 'locklesslaw12.CountedBounds': WHATEVER THE INPUT: true; the input reads as it did. -/
def countedBoundsSpec : ChangeSpec := { name := "countedBounds", fn := fun _ => fun
  | [d] => { results := [.lit (.bool true)], args := [d] }
  | _ => none }
def countedBoundsRow : OpenClaim := { program := "ytphahilggfckaaa", sum := "29b7bfc18d89c7a218dbd21a206530b7d84b807c9362606b1485e3692f1a153a", func := "lockless/locklesslaw12.CountedBounds", spec := "countedBounds", apart := false }
def CountedBoundsSaid : Prop := countedBoundsRow.holds Try.pinned (OpenSpec.ofChange countedBoundsSpec)

/-- ITS FALSE NEIGHBOUR: 'it returns false'. Refute it at one input. -/
def countedBoundsWrong : ChangeSpec := { name := "countedBounds", fn := fun _ => fun
  | [d] => { results := [.lit (.bool false)], args := [d] }
  | _ => none }
def CountedBoundsWrongFalsely : Prop := countedBoundsRow.holds Try.pinned (OpenSpec.ofChange countedBoundsWrong)

/-- 'locklesslaw12.CountedCounts': WHATEVER THE INPUT: true; the input reads as it did. -/
def countedCountsSpec : ChangeSpec := { name := "countedCounts", fn := fun _ => fun
  | [d1, d2, d3] => { results := [.lit (.bool true)], args := [d1, d2, d3] }
  | _ => none }
def countedCountsRow : OpenClaim := { program := "ytphahilggfckaaa", sum := "29b7bfc18d89c7a218dbd21a206530b7d84b807c9362606b1485e3692f1a153a", func := "lockless/locklesslaw12.CountedCounts", spec := "countedCounts", apart := false }
def CountedCountsSaid : Prop := countedCountsRow.holds Try.pinned (OpenSpec.ofChange countedCountsSpec)

/-- ITS FALSE NEIGHBOUR: 'it returns false'. Refute it at one input. -/
def countedCountsWrong : ChangeSpec := { name := "countedCounts", fn := fun _ => fun
  | [d1, d2, d3] => { results := [.lit (.bool false)], args := [d1, d2, d3] }
  | _ => none }
def CountedCountsWrongFalsely : Prop := countedCountsRow.holds Try.pinned (OpenSpec.ofChange countedCountsWrong)

/-- 'locklesslaw12.CountedScripts': WHATEVER THE INPUT: true; the input reads as it did. -/
def countedScriptsSpec : ChangeSpec := { name := "countedScripts", fn := fun _ => fun
  | [d1, d2] => { results := [.lit (.bool true)], args := [d1, d2] }
  | _ => none }
def countedScriptsRow : OpenClaim := { program := "ytphahilggfckaaa", sum := "29b7bfc18d89c7a218dbd21a206530b7d84b807c9362606b1485e3692f1a153a", func := "lockless/locklesslaw12.CountedScripts", spec := "countedScripts", apart := false }
def CountedScriptsSaid : Prop := countedScriptsRow.holds Try.pinned (OpenSpec.ofChange countedScriptsSpec)

/-- ITS FALSE NEIGHBOUR: 'it returns false'. Refute it at one input. -/
def countedScriptsWrong : ChangeSpec := { name := "countedScripts", fn := fun _ => fun
  | [d1, d2] => { results := [.lit (.bool false)], args := [d1, d2] }
  | _ => none }
def CountedScriptsWrongFalsely : Prop := countedScriptsRow.holds Try.pinned (OpenSpec.ofChange countedScriptsWrong)

/-- 'locklesslaw12.CountedMost': WHATEVER THE INPUT: true; the input reads as it did. -/
def countedMostSpec : ChangeSpec := { name := "countedMost", fn := fun _ => fun
  | [d1, d2] => { results := [.lit (.bool true)], args := [d1, d2] }
  | _ => none }
def countedMostRow : OpenClaim := { program := "ytphahilggfckaaa", sum := "29b7bfc18d89c7a218dbd21a206530b7d84b807c9362606b1485e3692f1a153a", func := "lockless/locklesslaw12.CountedMost", spec := "countedMost", apart := false }
def CountedMostSaid : Prop := countedMostRow.holds Try.pinned (OpenSpec.ofChange countedMostSpec)

/-- ITS FALSE NEIGHBOUR: 'it returns false'. Refute it at one input. -/
def countedMostWrong : ChangeSpec := { name := "countedMost", fn := fun _ => fun
  | [d1, d2] => { results := [.lit (.bool false)], args := [d1, d2] }
  | _ => none }
def CountedMostWrongFalsely : Prop := countedMostRow.holds Try.pinned (OpenSpec.ofChange countedMostWrong)

/-- 'locklesslaw12.CountedKeeps': WHATEVER THE INPUT: true; the input reads as it did. -/
def countedKeepsSpec : ChangeSpec := { name := "countedKeeps", fn := fun _ => fun
  | [d] => { results := [.lit (.bool true)], args := [d] }
  | _ => none }
def countedKeepsRow : OpenClaim := { program := "ytphahilggfckaaa", sum := "29b7bfc18d89c7a218dbd21a206530b7d84b807c9362606b1485e3692f1a153a", func := "lockless/locklesslaw12.CountedKeeps", spec := "countedKeeps", apart := false }
def CountedKeepsSaid : Prop := countedKeepsRow.holds Try.pinned (OpenSpec.ofChange countedKeepsSpec)

/-- ITS FALSE NEIGHBOUR: 'it returns false'. Refute it at one input. -/
def countedKeepsWrong : ChangeSpec := { name := "countedKeeps", fn := fun _ => fun
  | [d] => { results := [.lit (.bool false)], args := [d] }
  | _ => none }
def CountedKeepsWrongFalsely : Prop := countedKeepsRow.holds Try.pinned (OpenSpec.ofChange countedKeepsWrong)

/-- 'locklesslaw12.CountedOnce': WHATEVER THE INPUT: true; the input reads as it did. -/
def countedOnceSpec : ChangeSpec := { name := "countedOnce", fn := fun _ => fun
  | [d] => { results := [.lit (.bool true)], args := [d] }
  | _ => none }
def countedOnceRow : OpenClaim := { program := "ytphahilggfckaaa", sum := "29b7bfc18d89c7a218dbd21a206530b7d84b807c9362606b1485e3692f1a153a", func := "lockless/locklesslaw12.CountedOnce", spec := "countedOnce", apart := false }
def CountedOnceSaid : Prop := countedOnceRow.holds Try.pinned (OpenSpec.ofChange countedOnceSpec)

/-- ITS FALSE NEIGHBOUR: 'it returns false'. Refute it at one input. -/
def countedOnceWrong : ChangeSpec := { name := "countedOnce", fn := fun _ => fun
  | [d] => { results := [.lit (.bool false)], args := [d] }
  | _ => none }
def CountedOnceWrongFalsely : Prop := countedOnceRow.holds Try.pinned (OpenSpec.ofChange countedOnceWrong)

/-- 'locklesslaw12.CountedLeaves': WHATEVER THE INPUT: true; the input reads as it did. -/
def countedLeavesSpec : ChangeSpec := { name := "countedLeaves", fn := fun _ => fun
  | [d1, d2] => { results := [.lit (.bool true)], args := [d1, d2] }
  | _ => none }
def countedLeavesRow : OpenClaim := { program := "ytphahilggfckaaa", sum := "29b7bfc18d89c7a218dbd21a206530b7d84b807c9362606b1485e3692f1a153a", func := "lockless/locklesslaw12.CountedLeaves", spec := "countedLeaves", apart := false }
def CountedLeavesSaid : Prop := countedLeavesRow.holds Try.pinned (OpenSpec.ofChange countedLeavesSpec)

/-- ITS FALSE NEIGHBOUR: 'it returns false'. Refute it at one input. -/
def countedLeavesWrong : ChangeSpec := { name := "countedLeaves", fn := fun _ => fun
  | [d1, d2] => { results := [.lit (.bool false)], args := [d1, d2] }
  | _ => none }
def CountedLeavesWrongFalsely : Prop := countedLeavesRow.holds Try.pinned (OpenSpec.ofChange countedLeavesWrong)

/-- 'locklesslaw12.CountedNil': WHATEVER THE INPUT: true; the input reads as it did. -/
def countedNilSpec : ChangeSpec := { name := "countedNil", fn := fun _ => fun
  | [d] => { results := [.lit (.bool true)], args := [d] }
  | _ => none }
def countedNilRow : OpenClaim := { program := "ytphahilggfckaaa", sum := "29b7bfc18d89c7a218dbd21a206530b7d84b807c9362606b1485e3692f1a153a", func := "lockless/locklesslaw12.CountedNil", spec := "countedNil", inPlace := ["maps.clone"], apart := false }
def CountedNilSaid : Prop := countedNilRow.holds Try.pinned (OpenSpec.ofChange countedNilSpec)

/-- ITS FALSE NEIGHBOUR: 'it returns false'. Refute it at one input. -/
def countedNilWrong : ChangeSpec := { name := "countedNil", fn := fun _ => fun
  | [d] => { results := [.lit (.bool false)], args := [d] }
  | _ => none }
def CountedNilWrongFalsely : Prop := countedNilRow.holds Try.pinned (OpenSpec.ofChange countedNilWrong)

/-- 'locklesslaw12.CountedCopies': WHATEVER THE INPUT: true; the input reads as it did. -/
def countedCopiesSpec : ChangeSpec := { name := "countedCopies", fn := fun _ => fun
  | [d1, d2, d3] => { results := [.lit (.bool true)], args := [d1, d2, d3] }
  | _ => none }
def countedCopiesRow : OpenClaim := { program := "ytphahilggfckaaa", sum := "29b7bfc18d89c7a218dbd21a206530b7d84b807c9362606b1485e3692f1a153a", func := "lockless/locklesslaw12.CountedCopies", spec := "countedCopies", inPlace := ["maps.clone"], apart := false }
def CountedCopiesSaid : Prop := countedCopiesRow.holds Try.pinned (OpenSpec.ofChange countedCopiesSpec)

/-- ITS FALSE NEIGHBOUR: 'it returns false'. Refute it at one input. -/
def countedCopiesWrong : ChangeSpec := { name := "countedCopies", fn := fun _ => fun
  | [d1, d2, d3] => { results := [.lit (.bool false)], args := [d1, d2, d3] }
  | _ => none }
def CountedCopiesWrongFalsely : Prop := countedCopiesRow.holds Try.pinned (OpenSpec.ofChange countedCopiesWrong)

/- THE SECOND FORM. 'bulk': how many values and letters a reading holds, each counted each time it is reached (what is shared counts as often as it is met; a slice's spare places count too). A statement '..UptoSaid' is the law's where the arguments, and the package variables that the reading takes, are together of bulk at most 1048576: NARROWER than '..Said'. Prove '..Said' where nothing that the law and all that it calls make is longer than what came in: it says more and counts as full. Else prove '..UptoSaid'. A law counts once. -/
mutual
def uptoBulk {H : Type} : DataW H → Nat
  | .lit (.string bytes) => bytes.length + 1
  | .lit _ => 1
  | .nil => 1
  | .ptr d => uptoBulk d + 1
  | .slice elems spare => uptoBulkAll elems + uptoBulkAll spare + 1
  | .agg parts => uptoBulkAll parts + 1
  | .iface _ d => uptoBulk d + 1
  | .map entries => uptoBulkEntries entries + 1
  | .held _ => 1
def uptoBulkAll {H : Type} : List (DataW H) → Nat
  | [] => 0
  | d :: r => uptoBulk d + uptoBulkAll r
def uptoBulkEntries {H : Type} : List (Lit × DataW H) → Nat
  | [] => 0
  | x :: r => uptoBulkEntry x + uptoBulkEntries r
def uptoBulkEntry {H : Type} : Lit × DataW H → Nat
  | (.string bytes, d) => bytes.length + uptoBulk d + 1
  | (_, d) => uptoBulk d + 1
 end
def uptoSmall : (H : Type) → List (DataW H) → Bool := fun _ ds => decide (uptoBulkAll ds ≤ 1048576)
def OpenSpec.upto (s : _root_.Go.ChangeSpec) : _root_.Go.OpenSpec := { _root_.Go.OpenSpec.ofChange s with cond := some uptoSmall }

/-- 'locklesslaw12.CountedBounds', WHERE WHAT IT READS IS OF BULK AT MOST 1048576: true; the input reads as it did. -/
def countedBoundsUptoRow : OpenClaim := { program := "ytphahilggfckaaa", sum := "29b7bfc18d89c7a218dbd21a206530b7d84b807c9362606b1485e3692f1a153a", func := "lockless/locklesslaw12.CountedBounds", spec := "countedBounds", apart := false, narrowed := true }
def CountedBoundsUptoSaid : Prop := countedBoundsUptoRow.holds Try.pinned (OpenSpec.upto countedBoundsSpec)

/-- 'locklesslaw12.CountedCounts', WHERE WHAT IT READS IS OF BULK AT MOST 1048576: true; the input reads as it did. -/
def countedCountsUptoRow : OpenClaim := { program := "ytphahilggfckaaa", sum := "29b7bfc18d89c7a218dbd21a206530b7d84b807c9362606b1485e3692f1a153a", func := "lockless/locklesslaw12.CountedCounts", spec := "countedCounts", apart := false, narrowed := true }
def CountedCountsUptoSaid : Prop := countedCountsUptoRow.holds Try.pinned (OpenSpec.upto countedCountsSpec)

/-- 'locklesslaw12.CountedScripts', WHERE WHAT IT READS IS OF BULK AT MOST 1048576: true; the input reads as it did. -/
def countedScriptsUptoRow : OpenClaim := { program := "ytphahilggfckaaa", sum := "29b7bfc18d89c7a218dbd21a206530b7d84b807c9362606b1485e3692f1a153a", func := "lockless/locklesslaw12.CountedScripts", spec := "countedScripts", apart := false, narrowed := true }
def CountedScriptsUptoSaid : Prop := countedScriptsUptoRow.holds Try.pinned (OpenSpec.upto countedScriptsSpec)

/-- 'locklesslaw12.CountedMost', WHERE WHAT IT READS IS OF BULK AT MOST 1048576: true; the input reads as it did. -/
def countedMostUptoRow : OpenClaim := { program := "ytphahilggfckaaa", sum := "29b7bfc18d89c7a218dbd21a206530b7d84b807c9362606b1485e3692f1a153a", func := "lockless/locklesslaw12.CountedMost", spec := "countedMost", apart := false, narrowed := true }
def CountedMostUptoSaid : Prop := countedMostUptoRow.holds Try.pinned (OpenSpec.upto countedMostSpec)

/-- 'locklesslaw12.CountedKeeps', WHERE WHAT IT READS IS OF BULK AT MOST 1048576: true; the input reads as it did. -/
def countedKeepsUptoRow : OpenClaim := { program := "ytphahilggfckaaa", sum := "29b7bfc18d89c7a218dbd21a206530b7d84b807c9362606b1485e3692f1a153a", func := "lockless/locklesslaw12.CountedKeeps", spec := "countedKeeps", apart := false, narrowed := true }
def CountedKeepsUptoSaid : Prop := countedKeepsUptoRow.holds Try.pinned (OpenSpec.upto countedKeepsSpec)

/-- 'locklesslaw12.CountedOnce', WHERE WHAT IT READS IS OF BULK AT MOST 1048576: true; the input reads as it did. -/
def countedOnceUptoRow : OpenClaim := { program := "ytphahilggfckaaa", sum := "29b7bfc18d89c7a218dbd21a206530b7d84b807c9362606b1485e3692f1a153a", func := "lockless/locklesslaw12.CountedOnce", spec := "countedOnce", apart := false, narrowed := true }
def CountedOnceUptoSaid : Prop := countedOnceUptoRow.holds Try.pinned (OpenSpec.upto countedOnceSpec)

/-- 'locklesslaw12.CountedLeaves', WHERE WHAT IT READS IS OF BULK AT MOST 1048576: true; the input reads as it did. -/
def countedLeavesUptoRow : OpenClaim := { program := "ytphahilggfckaaa", sum := "29b7bfc18d89c7a218dbd21a206530b7d84b807c9362606b1485e3692f1a153a", func := "lockless/locklesslaw12.CountedLeaves", spec := "countedLeaves", apart := false, narrowed := true }
def CountedLeavesUptoSaid : Prop := countedLeavesUptoRow.holds Try.pinned (OpenSpec.upto countedLeavesSpec)

/-- 'locklesslaw12.CountedNil', WHERE WHAT IT READS IS OF BULK AT MOST 1048576: true; the input reads as it did. -/
def countedNilUptoRow : OpenClaim := { program := "ytphahilggfckaaa", sum := "29b7bfc18d89c7a218dbd21a206530b7d84b807c9362606b1485e3692f1a153a", func := "lockless/locklesslaw12.CountedNil", spec := "countedNil", inPlace := ["maps.clone"], apart := false, narrowed := true }
def CountedNilUptoSaid : Prop := countedNilUptoRow.holds Try.pinned (OpenSpec.upto countedNilSpec)

/-- 'locklesslaw12.CountedCopies', WHERE WHAT IT READS IS OF BULK AT MOST 1048576: true; the input reads as it did. -/
def countedCopiesUptoRow : OpenClaim := { program := "ytphahilggfckaaa", sum := "29b7bfc18d89c7a218dbd21a206530b7d84b807c9362606b1485e3692f1a153a", func := "lockless/locklesslaw12.CountedCopies", spec := "countedCopies", inPlace := ["maps.clone"], apart := false, narrowed := true }
def CountedCopiesUptoSaid : Prop := countedCopiesUptoRow.holds Try.pinned (OpenSpec.upto countedCopiesSpec)

end Rows
end Go.Proofs.Ytphahilggfckaaa
