/-
  No cell of these rows narrows 'for every input' (looked for: loops, veiled, ifaces, maps, wideKeys, modest, calm, conditions, laid).
  DERIVED. THE GIVEN ROWS OF THIS SEAT. 7 by the template 'for every input the law returns true; each argument reads behind the call as it read before'; 0 by the template 'total and deterministic' (their statements: YtdgkdfblgeobmaaTotals.lean).
  GIVEN WITH THE SEED: the statements are not yours to turn. If you find one false, say at which input.
  Laid BY PROGRAM, IN A SANDBOX (cutbox-rows.mjs): the forced cells as the released guide's own fill.sh prints them over the translation e7147cf78a7e5028… (all of the seat's roots in one cut). By AI agents, Wed Nov 11 2026. No macro, syntax, notation, axiom, sorry.
-/
import Derived.Test.YtdgkdfblgeobmaaChecked
import GoSem.Claim
import GoSem.ClaimJoined
import GoSem.ClaimMapViews
import Derived.JoinedTies
import Derived.KernelRfl
namespace Go.Proofs.Ytdgkdfblgeobmaa
/- THE CELL 'sum', in the pinned program and in every row, IS THE sha256 OF THE DUMP (.gsa) THAT YtdgkdfblgeobmaaProg.lean LOADS. Nothing in Lean hashes anything: it is a label: what it is worth is what the hold of that sum in a sandbox is worth. -/
noncomputable def Try.pinned : Pinned := { name := "ytdgkdfblgeobmaa", sum := "e7147cf78a7e502804c7709ceba78dd18a5d81d7ec1bbbd57e1db74920f5e5c6", checked := Try.checked }
namespace Rows
def none {H : Type} : Left H := { results := [], args := [] }

/-- 'locklesslaw13.QuietAwaits': WHATEVER THE INPUT: true; the input reads as it did. -/
def quietAwaitsSpec : ChangeSpec := { name := "quietAwaits", fn := fun _ => fun
  | [d1, d2] => { results := [.lit (.bool true)], args := [d1, d2] }
  | _ => none }
def quietAwaitsRow : OpenClaim := { program := "ytdgkdfblgeobmaa", sum := "e7147cf78a7e502804c7709ceba78dd18a5d81d7ec1bbbd57e1db74920f5e5c6", func := "lockless/locklesslaw13.QuietAwaits", spec := "quietAwaits", apart := false }
def QuietAwaitsSaid : Prop := quietAwaitsRow.holds Try.pinned (OpenSpec.ofChange quietAwaitsSpec)

/-- ITS FALSE NEIGHBOUR: 'it returns false'. Refute it at one input. -/
def quietAwaitsWrong : ChangeSpec := { name := "quietAwaits", fn := fun _ => fun
  | [d1, d2] => { results := [.lit (.bool false)], args := [d1, d2] }
  | _ => none }
def QuietAwaitsWrongFalsely : Prop := quietAwaitsRow.holds Try.pinned (OpenSpec.ofChange quietAwaitsWrong)

/-- 'locklesslaw13.QuietLater': WHATEVER THE INPUT: true; the input reads as it did. -/
def quietLaterSpec : ChangeSpec := { name := "quietLater", fn := fun _ => fun
  | [d1, d2, d3] => { results := [.lit (.bool true)], args := [d1, d2, d3] }
  | _ => none }
def quietLaterRow : OpenClaim := { program := "ytdgkdfblgeobmaa", sum := "e7147cf78a7e502804c7709ceba78dd18a5d81d7ec1bbbd57e1db74920f5e5c6", func := "lockless/locklesslaw13.QuietLater", spec := "quietLater", apart := false }
def QuietLaterSaid : Prop := quietLaterRow.holds Try.pinned (OpenSpec.ofChange quietLaterSpec)

/-- ITS FALSE NEIGHBOUR: 'it returns false'. Refute it at one input. -/
def quietLaterWrong : ChangeSpec := { name := "quietLater", fn := fun _ => fun
  | [d1, d2, d3] => { results := [.lit (.bool false)], args := [d1, d2, d3] }
  | _ => none }
def QuietLaterWrongFalsely : Prop := quietLaterRow.holds Try.pinned (OpenSpec.ofChange quietLaterWrong)

/-- 'locklesslaw13.QuietEmpties': WHATEVER THE INPUT: true; the input reads as it did. -/
def quietEmptiesSpec : ChangeSpec := { name := "quietEmpties", fn := fun _ => fun
  | [d1, d2, d3] => { results := [.lit (.bool true)], args := [d1, d2, d3] }
  | _ => none }
def quietEmptiesRow : OpenClaim := { program := "ytdgkdfblgeobmaa", sum := "e7147cf78a7e502804c7709ceba78dd18a5d81d7ec1bbbd57e1db74920f5e5c6", func := "lockless/locklesslaw13.QuietEmpties", spec := "quietEmpties", apart := false }
def QuietEmptiesSaid : Prop := quietEmptiesRow.holds Try.pinned (OpenSpec.ofChange quietEmptiesSpec)

/-- ITS FALSE NEIGHBOUR: 'it returns false'. Refute it at one input. -/
def quietEmptiesWrong : ChangeSpec := { name := "quietEmpties", fn := fun _ => fun
  | [d1, d2, d3] => { results := [.lit (.bool false)], args := [d1, d2, d3] }
  | _ => none }
def QuietEmptiesWrongFalsely : Prop := quietEmptiesRow.holds Try.pinned (OpenSpec.ofChange quietEmptiesWrong)

/-- 'locklesslaw13.QuietOnce': WHATEVER THE INPUT: true; the input reads as it did. -/
def quietOnceSpec : ChangeSpec := { name := "quietOnce", fn := fun _ => fun
  | [d1, d2] => { results := [.lit (.bool true)], args := [d1, d2] }
  | _ => none }
def quietOnceRow : OpenClaim := { program := "ytdgkdfblgeobmaa", sum := "e7147cf78a7e502804c7709ceba78dd18a5d81d7ec1bbbd57e1db74920f5e5c6", func := "lockless/locklesslaw13.QuietOnce", spec := "quietOnce", apart := false }
def QuietOnceSaid : Prop := quietOnceRow.holds Try.pinned (OpenSpec.ofChange quietOnceSpec)

/-- ITS FALSE NEIGHBOUR: 'it returns false'. Refute it at one input. -/
def quietOnceWrong : ChangeSpec := { name := "quietOnce", fn := fun _ => fun
  | [d1, d2] => { results := [.lit (.bool false)], args := [d1, d2] }
  | _ => none }
def QuietOnceWrongFalsely : Prop := quietOnceRow.holds Try.pinned (OpenSpec.ofChange quietOnceWrong)

/-- 'locklesslaw13.QuietPlays': WHATEVER THE INPUT: true; the input reads as it did. -/
def quietPlaysSpec : ChangeSpec := { name := "quietPlays", fn := fun _ => fun
  | [d1, d2] => { results := [.lit (.bool true)], args := [d1, d2] }
  | _ => none }
def quietPlaysRow : OpenClaim := { program := "ytdgkdfblgeobmaa", sum := "e7147cf78a7e502804c7709ceba78dd18a5d81d7ec1bbbd57e1db74920f5e5c6", func := "lockless/locklesslaw13.QuietPlays", spec := "quietPlays", apart := false }
def QuietPlaysSaid : Prop := quietPlaysRow.holds Try.pinned (OpenSpec.ofChange quietPlaysSpec)

/-- ITS FALSE NEIGHBOUR: 'it returns false'. Refute it at one input. -/
def quietPlaysWrong : ChangeSpec := { name := "quietPlays", fn := fun _ => fun
  | [d1, d2] => { results := [.lit (.bool false)], args := [d1, d2] }
  | _ => none }
def QuietPlaysWrongFalsely : Prop := quietPlaysRow.holds Try.pinned (OpenSpec.ofChange quietPlaysWrong)

/-- 'locklesslaw13.QuietCopies': WHATEVER THE INPUT: true; the input reads as it did. -/
def quietCopiesSpec : ChangeSpec := { name := "quietCopies", fn := fun _ => fun
  | [d1, d2, d3] => { results := [.lit (.bool true)], args := [d1, d2, d3] }
  | _ => none }
def quietCopiesRow : OpenClaim := { program := "ytdgkdfblgeobmaa", sum := "e7147cf78a7e502804c7709ceba78dd18a5d81d7ec1bbbd57e1db74920f5e5c6", func := "lockless/locklesslaw13.QuietCopies", spec := "quietCopies", apart := false }
def QuietCopiesSaid : Prop := quietCopiesRow.holds Try.pinned (OpenSpec.ofChange quietCopiesSpec)

/-- ITS FALSE NEIGHBOUR: 'it returns false'. Refute it at one input. -/
def quietCopiesWrong : ChangeSpec := { name := "quietCopies", fn := fun _ => fun
  | [d1, d2, d3] => { results := [.lit (.bool false)], args := [d1, d2, d3] }
  | _ => none }
def QuietCopiesWrongFalsely : Prop := quietCopiesRow.holds Try.pinned (OpenSpec.ofChange quietCopiesWrong)

/-- 'locklesslaw13.QuietNothing': WHATEVER THE INPUT: true; the input reads as it did. -/
def quietNothingSpec : ChangeSpec := { name := "quietNothing", fn := fun _ => fun
  | [d] => { results := [.lit (.bool true)], args := [d] }
  | _ => none }
def quietNothingRow : OpenClaim := { program := "ytdgkdfblgeobmaa", sum := "e7147cf78a7e502804c7709ceba78dd18a5d81d7ec1bbbd57e1db74920f5e5c6", func := "lockless/locklesslaw13.QuietNothing", spec := "quietNothing", apart := false }
def QuietNothingSaid : Prop := quietNothingRow.holds Try.pinned (OpenSpec.ofChange quietNothingSpec)

/-- ITS FALSE NEIGHBOUR: 'it returns false'. Refute it at one input. -/
def quietNothingWrong : ChangeSpec := { name := "quietNothing", fn := fun _ => fun
  | [d] => { results := [.lit (.bool false)], args := [d] }
  | _ => none }
def QuietNothingWrongFalsely : Prop := quietNothingRow.holds Try.pinned (OpenSpec.ofChange quietNothingWrong)

/- THE SECOND FORM. 'bulk': how many values and letters a reading holds, each counted each time it is reached (what is shared counts as often as it is met; a slice's spare places count too). A statement '..UptoSaid' is the law's where the arguments, and the package variables that the reading takes, are together of bulk at most 1048576: NARROWER than '..Said'. Prove '..Said' where nothing that the law and all that it calls make is longer than what came in: it says more and counts as full. Else prove '..UptoSaid'. A law counts once. -/
mutual
def uptoBulk {H : Type} : DataW H → Nat
  | .lit (.string bytes) => bytes.length + 1
  | .lit _ => 1
  | .nil => 1
  | .ptr d => uptoBulk d + 1
  | .slice elems spare => uptoBulkAll elems + uptoBulkAll spare + 1
  | .agg parts => uptoBulkAll parts + 1
  | .iface _ d => uptoBulk d + 1
  | .map entries => uptoBulkEntries entries + 1
  | .held _ => 1
def uptoBulkAll {H : Type} : List (DataW H) → Nat
  | [] => 0
  | d :: r => uptoBulk d + uptoBulkAll r
def uptoBulkEntries {H : Type} : List (Lit × DataW H) → Nat
  | [] => 0
  | x :: r => uptoBulkEntry x + uptoBulkEntries r
def uptoBulkEntry {H : Type} : Lit × DataW H → Nat
  | (.string bytes, d) => bytes.length + uptoBulk d + 1
  | (_, d) => uptoBulk d + 1
 end
def uptoSmall : (H : Type) → List (DataW H) → Bool := fun _ ds => decide (uptoBulkAll ds ≤ 1048576)
def OpenSpec.upto (s : _root_.Go.ChangeSpec) : _root_.Go.OpenSpec := { _root_.Go.OpenSpec.ofChange s with cond := some uptoSmall }

/-- 'locklesslaw13.QuietAwaits', WHERE WHAT IT READS IS OF BULK AT MOST 1048576: true; the input reads as it did. -/
def quietAwaitsUptoRow : OpenClaim := { program := "ytdgkdfblgeobmaa", sum := "e7147cf78a7e502804c7709ceba78dd18a5d81d7ec1bbbd57e1db74920f5e5c6", func := "lockless/locklesslaw13.QuietAwaits", spec := "quietAwaits", apart := false, narrowed := true }
def QuietAwaitsUptoSaid : Prop := quietAwaitsUptoRow.holds Try.pinned (OpenSpec.upto quietAwaitsSpec)

/-- 'locklesslaw13.QuietLater', WHERE WHAT IT READS IS OF BULK AT MOST 1048576: true; the input reads as it did. -/
def quietLaterUptoRow : OpenClaim := { program := "ytdgkdfblgeobmaa", sum := "e7147cf78a7e502804c7709ceba78dd18a5d81d7ec1bbbd57e1db74920f5e5c6", func := "lockless/locklesslaw13.QuietLater", spec := "quietLater", apart := false, narrowed := true }
def QuietLaterUptoSaid : Prop := quietLaterUptoRow.holds Try.pinned (OpenSpec.upto quietLaterSpec)

/-- 'locklesslaw13.QuietEmpties', WHERE WHAT IT READS IS OF BULK AT MOST 1048576: true; the input reads as it did. -/
def quietEmptiesUptoRow : OpenClaim := { program := "ytdgkdfblgeobmaa", sum := "e7147cf78a7e502804c7709ceba78dd18a5d81d7ec1bbbd57e1db74920f5e5c6", func := "lockless/locklesslaw13.QuietEmpties", spec := "quietEmpties", apart := false, narrowed := true }
def QuietEmptiesUptoSaid : Prop := quietEmptiesUptoRow.holds Try.pinned (OpenSpec.upto quietEmptiesSpec)

/-- 'locklesslaw13.QuietOnce', WHERE WHAT IT READS IS OF BULK AT MOST 1048576: true; the input reads as it did. -/
def quietOnceUptoRow : OpenClaim := { program := "ytdgkdfblgeobmaa", sum := "e7147cf78a7e502804c7709ceba78dd18a5d81d7ec1bbbd57e1db74920f5e5c6", func := "lockless/locklesslaw13.QuietOnce", spec := "quietOnce", apart := false, narrowed := true }
def QuietOnceUptoSaid : Prop := quietOnceUptoRow.holds Try.pinned (OpenSpec.upto quietOnceSpec)

/-- 'locklesslaw13.QuietPlays', WHERE WHAT IT READS IS OF BULK AT MOST 1048576: true; the input reads as it did. -/
def quietPlaysUptoRow : OpenClaim := { program := "ytdgkdfblgeobmaa", sum := "e7147cf78a7e502804c7709ceba78dd18a5d81d7ec1bbbd57e1db74920f5e5c6", func := "lockless/locklesslaw13.QuietPlays", spec := "quietPlays", apart := false, narrowed := true }
def QuietPlaysUptoSaid : Prop := quietPlaysUptoRow.holds Try.pinned (OpenSpec.upto quietPlaysSpec)

/-- 'locklesslaw13.QuietCopies', WHERE WHAT IT READS IS OF BULK AT MOST 1048576: true; the input reads as it did. -/
def quietCopiesUptoRow : OpenClaim := { program := "ytdgkdfblgeobmaa", sum := "e7147cf78a7e502804c7709ceba78dd18a5d81d7ec1bbbd57e1db74920f5e5c6", func := "lockless/locklesslaw13.QuietCopies", spec := "quietCopies", apart := false, narrowed := true }
def QuietCopiesUptoSaid : Prop := quietCopiesUptoRow.holds Try.pinned (OpenSpec.upto quietCopiesSpec)

/-- 'locklesslaw13.QuietNothing', WHERE WHAT IT READS IS OF BULK AT MOST 1048576: true; the input reads as it did. -/
def quietNothingUptoRow : OpenClaim := { program := "ytdgkdfblgeobmaa", sum := "e7147cf78a7e502804c7709ceba78dd18a5d81d7ec1bbbd57e1db74920f5e5c6", func := "lockless/locklesslaw13.QuietNothing", spec := "quietNothing", apart := false, narrowed := true }
def QuietNothingUptoSaid : Prop := quietNothingUptoRow.holds Try.pinned (OpenSpec.upto quietNothingSpec)

end Rows
end Go.Proofs.Ytdgkdfblgeobmaa
