/-
  No cell of these rows narrows 'for every input' (looked for: loops, veiled, ifaces, maps, wideKeys, modest, calm, conditions, laid).
  DERIVED. THE GIVEN ROWS OF THIS SEAT. 7 by the template 'for every input the law returns true; each argument reads behind the call as it read before'; 0 by the template 'total and deterministic' (their statements: YtiokifkppfegfaaTotals.lean).
  GIVEN WITH THE SEED: the statements are not yours to turn. If you find one false, say at which input.
  Laid BY PROGRAM, IN A SANDBOX (cutbox-rows.mjs): the forced cells as the released guide's own fill.sh prints them over the translation 8d9b3884f800b250… (all of the seat's roots in one cut). By AI agents, Wed Nov 11 2026. No macro, syntax, notation, axiom, sorry.
-/
import Derived.Test.YtiokifkppfegfaaChecked
import GoSem.Claim
import GoSem.ClaimJoined
import GoSem.ClaimMapViews
import Derived.JoinedTies
import Derived.KernelRfl
namespace Go.Proofs.Ytiokifkppfegfaa
/- THE CELL 'sum', in the pinned program and in every row, IS THE sha256 OF THE DUMP (.gsa) THAT YtiokifkppfegfaaProg.lean LOADS. Nothing in Lean hashes anything: it is a label: what it is worth is what the hold of that sum in a sandbox is worth. -/
noncomputable def Try.pinned : Pinned := { name := "ytiokifkppfegfaa", sum := "8d9b3884f800b250a4d35114006817e27f28a9e62d090c294b907f64a595b2a3", checked := Try.checked }
namespace Rows
def none {H : Type} : Left H := { results := [], args := [] }

/-- 'locklesslaw11.SpanMeets': WHATEVER THE INPUT: true; the input reads as it did. -/
def spanMeetsSpec : ChangeSpec := { name := "spanMeets", fn := fun _ => fun
  | [d1, d2] => { results := [.lit (.bool true)], args := [d1, d2] }
  | _ => none }
def spanMeetsRow : OpenClaim := { program := "ytiokifkppfegfaa", sum := "8d9b3884f800b250a4d35114006817e27f28a9e62d090c294b907f64a595b2a3", func := "lockless/locklesslaw11.SpanMeets", spec := "spanMeets", apart := false }
def SpanMeetsSaid : Prop := spanMeetsRow.holds Try.pinned (OpenSpec.ofChange spanMeetsSpec)

/-- ITS FALSE NEIGHBOUR: 'it returns false'. Refute it at one input. -/
def spanMeetsWrong : ChangeSpec := { name := "spanMeets", fn := fun _ => fun
  | [d1, d2] => { results := [.lit (.bool false)], args := [d1, d2] }
  | _ => none }
def SpanMeetsWrongFalsely : Prop := spanMeetsRow.holds Try.pinned (OpenSpec.ofChange spanMeetsWrong)

/-- 'locklesslaw11.SpanEmpties': WHATEVER THE INPUT: true; the input reads as it did. -/
def spanEmptiesSpec : ChangeSpec := { name := "spanEmpties", fn := fun _ => fun
  | [d1, d2] => { results := [.lit (.bool true)], args := [d1, d2] }
  | _ => none }
def spanEmptiesRow : OpenClaim := { program := "ytiokifkppfegfaa", sum := "8d9b3884f800b250a4d35114006817e27f28a9e62d090c294b907f64a595b2a3", func := "lockless/locklesslaw11.SpanEmpties", spec := "spanEmpties", apart := false }
def SpanEmptiesSaid : Prop := spanEmptiesRow.holds Try.pinned (OpenSpec.ofChange spanEmptiesSpec)

/-- ITS FALSE NEIGHBOUR: 'it returns false'. Refute it at one input. -/
def spanEmptiesWrong : ChangeSpec := { name := "spanEmpties", fn := fun _ => fun
  | [d1, d2] => { results := [.lit (.bool false)], args := [d1, d2] }
  | _ => none }
def SpanEmptiesWrongFalsely : Prop := spanEmptiesRow.holds Try.pinned (OpenSpec.ofChange spanEmptiesWrong)

/-- 'locklesslaw11.SpanFresh': WHATEVER THE INPUT: true; the input reads as it did. -/
def spanFreshSpec : ChangeSpec := { name := "spanFresh", fn := fun _ => fun
  | [d1, d2, d3] => { results := [.lit (.bool true)], args := [d1, d2, d3] }
  | _ => none }
def spanFreshRow : OpenClaim := { program := "ytiokifkppfegfaa", sum := "8d9b3884f800b250a4d35114006817e27f28a9e62d090c294b907f64a595b2a3", func := "lockless/locklesslaw11.SpanFresh", spec := "spanFresh", apart := false }
def SpanFreshSaid : Prop := spanFreshRow.holds Try.pinned (OpenSpec.ofChange spanFreshSpec)

/-- ITS FALSE NEIGHBOUR: 'it returns false'. Refute it at one input. -/
def spanFreshWrong : ChangeSpec := { name := "spanFresh", fn := fun _ => fun
  | [d1, d2, d3] => { results := [.lit (.bool false)], args := [d1, d2, d3] }
  | _ => none }
def SpanFreshWrongFalsely : Prop := spanFreshRow.holds Try.pinned (OpenSpec.ofChange spanFreshWrong)

/-- 'locklesslaw11.SpanOnce': WHATEVER THE INPUT: true; the input reads as it did. -/
def spanOnceSpec : ChangeSpec := { name := "spanOnce", fn := fun _ => fun
  | [d1, d2] => { results := [.lit (.bool true)], args := [d1, d2] }
  | _ => none }
def spanOnceRow : OpenClaim := { program := "ytiokifkppfegfaa", sum := "8d9b3884f800b250a4d35114006817e27f28a9e62d090c294b907f64a595b2a3", func := "lockless/locklesslaw11.SpanOnce", spec := "spanOnce", apart := false }
def SpanOnceSaid : Prop := spanOnceRow.holds Try.pinned (OpenSpec.ofChange spanOnceSpec)

/-- ITS FALSE NEIGHBOUR: 'it returns false'. Refute it at one input. -/
def spanOnceWrong : ChangeSpec := { name := "spanOnce", fn := fun _ => fun
  | [d1, d2] => { results := [.lit (.bool false)], args := [d1, d2] }
  | _ => none }
def SpanOnceWrongFalsely : Prop := spanOnceRow.holds Try.pinned (OpenSpec.ofChange spanOnceWrong)

/-- 'locklesslaw11.SpanPlays': WHATEVER THE INPUT: true; the input reads as it did. -/
def spanPlaysSpec : ChangeSpec := { name := "spanPlays", fn := fun _ => fun
  | [d1, d2] => { results := [.lit (.bool true)], args := [d1, d2] }
  | _ => none }
def spanPlaysRow : OpenClaim := { program := "ytiokifkppfegfaa", sum := "8d9b3884f800b250a4d35114006817e27f28a9e62d090c294b907f64a595b2a3", func := "lockless/locklesslaw11.SpanPlays", spec := "spanPlays", apart := false }
def SpanPlaysSaid : Prop := spanPlaysRow.holds Try.pinned (OpenSpec.ofChange spanPlaysSpec)

/-- ITS FALSE NEIGHBOUR: 'it returns false'. Refute it at one input. -/
def spanPlaysWrong : ChangeSpec := { name := "spanPlays", fn := fun _ => fun
  | [d1, d2] => { results := [.lit (.bool false)], args := [d1, d2] }
  | _ => none }
def SpanPlaysWrongFalsely : Prop := spanPlaysRow.holds Try.pinned (OpenSpec.ofChange spanPlaysWrong)

/-- 'locklesslaw11.SpanCopies': WHATEVER THE INPUT: true; the input reads as it did. -/
def spanCopiesSpec : ChangeSpec := { name := "spanCopies", fn := fun _ => fun
  | [d1, d2, d3] => { results := [.lit (.bool true)], args := [d1, d2, d3] }
  | _ => none }
def spanCopiesRow : OpenClaim := { program := "ytiokifkppfegfaa", sum := "8d9b3884f800b250a4d35114006817e27f28a9e62d090c294b907f64a595b2a3", func := "lockless/locklesslaw11.SpanCopies", spec := "spanCopies", inPlace := ["maps.clone"], apart := false }
def SpanCopiesSaid : Prop := spanCopiesRow.holds Try.pinned (OpenSpec.ofChange spanCopiesSpec)

/-- ITS FALSE NEIGHBOUR: 'it returns false'. Refute it at one input. -/
def spanCopiesWrong : ChangeSpec := { name := "spanCopies", fn := fun _ => fun
  | [d1, d2, d3] => { results := [.lit (.bool false)], args := [d1, d2, d3] }
  | _ => none }
def SpanCopiesWrongFalsely : Prop := spanCopiesRow.holds Try.pinned (OpenSpec.ofChange spanCopiesWrong)

/-- 'locklesslaw11.SpanNothing': WHATEVER THE INPUT: true; the input reads as it did. -/
def spanNothingSpec : ChangeSpec := { name := "spanNothing", fn := fun _ => fun
  | [d] => { results := [.lit (.bool true)], args := [d] }
  | _ => none }
def spanNothingRow : OpenClaim := { program := "ytiokifkppfegfaa", sum := "8d9b3884f800b250a4d35114006817e27f28a9e62d090c294b907f64a595b2a3", func := "lockless/locklesslaw11.SpanNothing", spec := "spanNothing", inPlace := ["maps.clone"], apart := false }
def SpanNothingSaid : Prop := spanNothingRow.holds Try.pinned (OpenSpec.ofChange spanNothingSpec)

/-- ITS FALSE NEIGHBOUR: 'it returns false'. Refute it at one input. -/
def spanNothingWrong : ChangeSpec := { name := "spanNothing", fn := fun _ => fun
  | [d] => { results := [.lit (.bool false)], args := [d] }
  | _ => none }
def SpanNothingWrongFalsely : Prop := spanNothingRow.holds Try.pinned (OpenSpec.ofChange spanNothingWrong)

/- THE SECOND FORM. 'bulk': how many values and letters a reading holds, each counted each time it is reached (what is shared counts as often as it is met; a slice's spare places count too). A statement '..UptoSaid' is the law's where the arguments, and the package variables that the reading takes, are together of bulk at most 1048576: NARROWER than '..Said'. Prove '..Said' where nothing that the law and all that it calls make is longer than what came in: it says more and counts as full. Else prove '..UptoSaid'. A law counts once. -/
mutual
def uptoBulk {H : Type} : DataW H → Nat
  | .lit (.string bytes) => bytes.length + 1
  | .lit _ => 1
  | .nil => 1
  | .ptr d => uptoBulk d + 1
  | .slice elems spare => uptoBulkAll elems + uptoBulkAll spare + 1
  | .agg parts => uptoBulkAll parts + 1
  | .iface _ d => uptoBulk d + 1
  | .map entries => uptoBulkEntries entries + 1
  | .held _ => 1
def uptoBulkAll {H : Type} : List (DataW H) → Nat
  | [] => 0
  | d :: r => uptoBulk d + uptoBulkAll r
def uptoBulkEntries {H : Type} : List (Lit × DataW H) → Nat
  | [] => 0
  | x :: r => uptoBulkEntry x + uptoBulkEntries r
def uptoBulkEntry {H : Type} : Lit × DataW H → Nat
  | (.string bytes, d) => bytes.length + uptoBulk d + 1
  | (_, d) => uptoBulk d + 1
 end
def uptoSmall : (H : Type) → List (DataW H) → Bool := fun _ ds => decide (uptoBulkAll ds ≤ 1048576)
def OpenSpec.upto (s : _root_.Go.ChangeSpec) : _root_.Go.OpenSpec := { _root_.Go.OpenSpec.ofChange s with cond := some uptoSmall }

/-- 'locklesslaw11.SpanMeets', WHERE WHAT IT READS IS OF BULK AT MOST 1048576: true; the input reads as it did. -/
def spanMeetsUptoRow : OpenClaim := { program := "ytiokifkppfegfaa", sum := "8d9b3884f800b250a4d35114006817e27f28a9e62d090c294b907f64a595b2a3", func := "lockless/locklesslaw11.SpanMeets", spec := "spanMeets", apart := false, narrowed := true }
def SpanMeetsUptoSaid : Prop := spanMeetsUptoRow.holds Try.pinned (OpenSpec.upto spanMeetsSpec)

/-- 'locklesslaw11.SpanEmpties', WHERE WHAT IT READS IS OF BULK AT MOST 1048576: true; the input reads as it did. -/
def spanEmptiesUptoRow : OpenClaim := { program := "ytiokifkppfegfaa", sum := "8d9b3884f800b250a4d35114006817e27f28a9e62d090c294b907f64a595b2a3", func := "lockless/locklesslaw11.SpanEmpties", spec := "spanEmpties", apart := false, narrowed := true }
def SpanEmptiesUptoSaid : Prop := spanEmptiesUptoRow.holds Try.pinned (OpenSpec.upto spanEmptiesSpec)

/-- 'locklesslaw11.SpanFresh', WHERE WHAT IT READS IS OF BULK AT MOST 1048576: true; the input reads as it did. -/
def spanFreshUptoRow : OpenClaim := { program := "ytiokifkppfegfaa", sum := "8d9b3884f800b250a4d35114006817e27f28a9e62d090c294b907f64a595b2a3", func := "lockless/locklesslaw11.SpanFresh", spec := "spanFresh", apart := false, narrowed := true }
def SpanFreshUptoSaid : Prop := spanFreshUptoRow.holds Try.pinned (OpenSpec.upto spanFreshSpec)

/-- 'locklesslaw11.SpanOnce', WHERE WHAT IT READS IS OF BULK AT MOST 1048576: true; the input reads as it did. -/
def spanOnceUptoRow : OpenClaim := { program := "ytiokifkppfegfaa", sum := "8d9b3884f800b250a4d35114006817e27f28a9e62d090c294b907f64a595b2a3", func := "lockless/locklesslaw11.SpanOnce", spec := "spanOnce", apart := false, narrowed := true }
def SpanOnceUptoSaid : Prop := spanOnceUptoRow.holds Try.pinned (OpenSpec.upto spanOnceSpec)

/-- 'locklesslaw11.SpanPlays', WHERE WHAT IT READS IS OF BULK AT MOST 1048576: true; the input reads as it did. -/
def spanPlaysUptoRow : OpenClaim := { program := "ytiokifkppfegfaa", sum := "8d9b3884f800b250a4d35114006817e27f28a9e62d090c294b907f64a595b2a3", func := "lockless/locklesslaw11.SpanPlays", spec := "spanPlays", apart := false, narrowed := true }
def SpanPlaysUptoSaid : Prop := spanPlaysUptoRow.holds Try.pinned (OpenSpec.upto spanPlaysSpec)

/-- 'locklesslaw11.SpanCopies', WHERE WHAT IT READS IS OF BULK AT MOST 1048576: true; the input reads as it did. -/
def spanCopiesUptoRow : OpenClaim := { program := "ytiokifkppfegfaa", sum := "8d9b3884f800b250a4d35114006817e27f28a9e62d090c294b907f64a595b2a3", func := "lockless/locklesslaw11.SpanCopies", spec := "spanCopies", inPlace := ["maps.clone"], apart := false, narrowed := true }
def SpanCopiesUptoSaid : Prop := spanCopiesUptoRow.holds Try.pinned (OpenSpec.upto spanCopiesSpec)

/-- 'locklesslaw11.SpanNothing', WHERE WHAT IT READS IS OF BULK AT MOST 1048576: true; the input reads as it did. -/
def spanNothingUptoRow : OpenClaim := { program := "ytiokifkppfegfaa", sum := "8d9b3884f800b250a4d35114006817e27f28a9e62d090c294b907f64a595b2a3", func := "lockless/locklesslaw11.SpanNothing", spec := "spanNothing", inPlace := ["maps.clone"], apart := false, narrowed := true }
def SpanNothingUptoSaid : Prop := spanNothingUptoRow.holds Try.pinned (OpenSpec.upto spanNothingSpec)

end Rows
end Go.Proofs.Ytiokifkppfegfaa
