/-
  No cell of these rows narrows 'for every input' (looked for: loops, veiled, ifaces, maps, wideKeys, modest, calm, conditions, laid).
  DERIVED. THE GIVEN ROWS OF THIS SEAT. 6 by the template 'for every input the law returns true; each argument reads behind the call as it read before'; 0 by the template 'total and deterministic' (their statements: YtmdkneiicfffbaaTotals.lean).
  GIVEN WITH THE SEED: the statements are not yours to turn. If you find one false, say at which input.
  Laid BY PROGRAM, IN A SANDBOX (cutbox-rows.mjs): the forced cells as the released guide's own fill.sh prints them over the translation 58e00e41babf5a33… (all of the seat's roots in one cut). By AI agents, Wed Nov 11 2026. No macro, syntax, notation, axiom, sorry.
-/
import Derived.Test.YtmdkneiicfffbaaChecked
import GoSem.Claim
import GoSem.ClaimJoined
import GoSem.ClaimMapViews
import Derived.JoinedTies
import Derived.KernelRfl
namespace Go.Proofs.Ytmdkneiicfffbaa
/- THE CELL 'sum', in the pinned program and in every row, IS THE sha256 OF THE DUMP (.gsa) THAT YtmdkneiicfffbaaProg.lean LOADS. Nothing in Lean hashes anything: it is a label: what it is worth is what the hold of that sum in a sandbox is worth. -/
noncomputable def Try.pinned : Pinned := { name := "ytmdkneiicfffbaa", sum := "58e00e41babf5a332c3d22c3c219d89abebbc84a5106c187365552520f2d2d13", checked := Try.checked }
namespace Rows
def none {H : Type} : Left H := { results := [], args := [] }

/-- 'locklesslaw01.WordAscends': WHATEVER THE INPUT: true; the input reads as it did. -/
def wordAscendsSpec : ChangeSpec := { name := "wordAscends", fn := fun _ => fun
  | [d1, d2, d3] => { results := [.lit (.bool true)], args := [d1, d2, d3] }
  | _ => none }
def wordAscendsRow : OpenClaim := { program := "ytmdkneiicfffbaa", sum := "58e00e41babf5a332c3d22c3c219d89abebbc84a5106c187365552520f2d2d13", func := "lockless/locklesslaw01.WordAscends", spec := "wordAscends", apart := false }
def WordAscendsSaid : Prop := wordAscendsRow.holds Try.pinned (OpenSpec.ofChange wordAscendsSpec)

/-- ITS FALSE NEIGHBOUR: 'it returns false'. Refute it at one input. -/
def wordAscendsWrong : ChangeSpec := { name := "wordAscends", fn := fun _ => fun
  | [d1, d2, d3] => { results := [.lit (.bool false)], args := [d1, d2, d3] }
  | _ => none }
def WordAscendsWrongFalsely : Prop := wordAscendsRow.holds Try.pinned (OpenSpec.ofChange wordAscendsWrong)

/-- 'locklesslaw01.WordBumps': WHATEVER THE INPUT: true; the input reads as it did. -/
def wordBumpsSpec : ChangeSpec := { name := "wordBumps", fn := fun _ => fun
  | [d1, d2, d3] => { results := [.lit (.bool true)], args := [d1, d2, d3] }
  | _ => none }
def wordBumpsRow : OpenClaim := { program := "ytmdkneiicfffbaa", sum := "58e00e41babf5a332c3d22c3c219d89abebbc84a5106c187365552520f2d2d13", func := "lockless/locklesslaw01.WordBumps", spec := "wordBumps", apart := false }
def WordBumpsSaid : Prop := wordBumpsRow.holds Try.pinned (OpenSpec.ofChange wordBumpsSpec)

/-- ITS FALSE NEIGHBOUR: 'it returns false'. Refute it at one input. -/
def wordBumpsWrong : ChangeSpec := { name := "wordBumps", fn := fun _ => fun
  | [d1, d2, d3] => { results := [.lit (.bool false)], args := [d1, d2, d3] }
  | _ => none }
def WordBumpsWrongFalsely : Prop := wordBumpsRow.holds Try.pinned (OpenSpec.ofChange wordBumpsWrong)

/-- 'locklesslaw01.WordUnpacks': WHATEVER THE INPUT: true; the input reads as it did. -/
def wordUnpacksSpec : ChangeSpec := { name := "wordUnpacks", fn := fun _ => fun
  | [d1, d2] => { results := [.lit (.bool true)], args := [d1, d2] }
  | _ => none }
def wordUnpacksRow : OpenClaim := { program := "ytmdkneiicfffbaa", sum := "58e00e41babf5a332c3d22c3c219d89abebbc84a5106c187365552520f2d2d13", func := "lockless/locklesslaw01.WordUnpacks", spec := "wordUnpacks", apart := false }
def WordUnpacksSaid : Prop := wordUnpacksRow.holds Try.pinned (OpenSpec.ofChange wordUnpacksSpec)

/-- ITS FALSE NEIGHBOUR: 'it returns false'. Refute it at one input. -/
def wordUnpacksWrong : ChangeSpec := { name := "wordUnpacks", fn := fun _ => fun
  | [d1, d2] => { results := [.lit (.bool false)], args := [d1, d2] }
  | _ => none }
def WordUnpacksWrongFalsely : Prop := wordUnpacksRow.holds Try.pinned (OpenSpec.ofChange wordUnpacksWrong)

/-- 'locklesslaw01.WordWith': WHATEVER THE INPUT: true; the input reads as it did. -/
def wordWithSpec : ChangeSpec := { name := "wordWith", fn := fun _ => fun
  | [d1, d2, d3] => { results := [.lit (.bool true)], args := [d1, d2, d3] }
  | _ => none }
def wordWithRow : OpenClaim := { program := "ytmdkneiicfffbaa", sum := "58e00e41babf5a332c3d22c3c219d89abebbc84a5106c187365552520f2d2d13", func := "lockless/locklesslaw01.WordWith", spec := "wordWith", apart := false }
def WordWithSaid : Prop := wordWithRow.holds Try.pinned (OpenSpec.ofChange wordWithSpec)

/-- ITS FALSE NEIGHBOUR: 'it returns false'. Refute it at one input. -/
def wordWithWrong : ChangeSpec := { name := "wordWith", fn := fun _ => fun
  | [d1, d2, d3] => { results := [.lit (.bool false)], args := [d1, d2, d3] }
  | _ => none }
def WordWithWrongFalsely : Prop := wordWithRow.holds Try.pinned (OpenSpec.ofChange wordWithWrong)

/-- 'locklesslaw01.WordMarks': WHATEVER THE INPUT: true; the input reads as it did. -/
def wordMarksSpec : ChangeSpec := { name := "wordMarks", fn := fun _ => fun
  | [d] => { results := [.lit (.bool true)], args := [d] }
  | _ => none }
def wordMarksRow : OpenClaim := { program := "ytmdkneiicfffbaa", sum := "58e00e41babf5a332c3d22c3c219d89abebbc84a5106c187365552520f2d2d13", func := "lockless/locklesslaw01.WordMarks", spec := "wordMarks", apart := false }
def WordMarksSaid : Prop := wordMarksRow.holds Try.pinned (OpenSpec.ofChange wordMarksSpec)

/-- ITS FALSE NEIGHBOUR: 'it returns false'. Refute it at one input. -/
def wordMarksWrong : ChangeSpec := { name := "wordMarks", fn := fun _ => fun
  | [d] => { results := [.lit (.bool false)], args := [d] }
  | _ => none }
def WordMarksWrongFalsely : Prop := wordMarksRow.holds Try.pinned (OpenSpec.ofChange wordMarksWrong)

/-- 'locklesslaw01.WordPacks': WHATEVER THE INPUT: true; the input reads as it did. -/
def wordPacksSpec : ChangeSpec := { name := "wordPacks", fn := fun _ => fun
  | [d1, d2] => { results := [.lit (.bool true)], args := [d1, d2] }
  | _ => none }
def wordPacksRow : OpenClaim := { program := "ytmdkneiicfffbaa", sum := "58e00e41babf5a332c3d22c3c219d89abebbc84a5106c187365552520f2d2d13", func := "lockless/locklesslaw01.WordPacks", spec := "wordPacks", apart := false }
def WordPacksSaid : Prop := wordPacksRow.holds Try.pinned (OpenSpec.ofChange wordPacksSpec)

/-- ITS FALSE NEIGHBOUR: 'it returns false'. Refute it at one input. -/
def wordPacksWrong : ChangeSpec := { name := "wordPacks", fn := fun _ => fun
  | [d1, d2] => { results := [.lit (.bool false)], args := [d1, d2] }
  | _ => none }
def WordPacksWrongFalsely : Prop := wordPacksRow.holds Try.pinned (OpenSpec.ofChange wordPacksWrong)

/- THE SECOND FORM. 'bulk': how many values and letters a reading holds, each counted each time it is reached (what is shared counts as often as it is met; a slice's spare places count too). A statement '..UptoSaid' is the law's where the arguments, and the package variables that the reading takes, are together of bulk at most 1048576: NARROWER than '..Said'. Prove '..Said' where nothing that the law and all that it calls make is longer than what came in: it says more and counts as full. Else prove '..UptoSaid'. A law counts once. -/
mutual
def uptoBulk {H : Type} : DataW H → Nat
  | .lit (.string bytes) => bytes.length + 1
  | .lit _ => 1
  | .nil => 1
  | .ptr d => uptoBulk d + 1
  | .slice elems spare => uptoBulkAll elems + uptoBulkAll spare + 1
  | .agg parts => uptoBulkAll parts + 1
  | .iface _ d => uptoBulk d + 1
  | .map entries => uptoBulkEntries entries + 1
  | .held _ => 1
def uptoBulkAll {H : Type} : List (DataW H) → Nat
  | [] => 0
  | d :: r => uptoBulk d + uptoBulkAll r
def uptoBulkEntries {H : Type} : List (Lit × DataW H) → Nat
  | [] => 0
  | x :: r => uptoBulkEntry x + uptoBulkEntries r
def uptoBulkEntry {H : Type} : Lit × DataW H → Nat
  | (.string bytes, d) => bytes.length + uptoBulk d + 1
  | (_, d) => uptoBulk d + 1
 end
def uptoSmall : (H : Type) → List (DataW H) → Bool := fun _ ds => decide (uptoBulkAll ds ≤ 1048576)
def OpenSpec.upto (s : _root_.Go.ChangeSpec) : _root_.Go.OpenSpec := { _root_.Go.OpenSpec.ofChange s with cond := some uptoSmall }

/-- 'locklesslaw01.WordAscends', WHERE WHAT IT READS IS OF BULK AT MOST 1048576: true; the input reads as it did. -/
def wordAscendsUptoRow : OpenClaim := { program := "ytmdkneiicfffbaa", sum := "58e00e41babf5a332c3d22c3c219d89abebbc84a5106c187365552520f2d2d13", func := "lockless/locklesslaw01.WordAscends", spec := "wordAscends", apart := false, narrowed := true }
def WordAscendsUptoSaid : Prop := wordAscendsUptoRow.holds Try.pinned (OpenSpec.upto wordAscendsSpec)

/-- 'locklesslaw01.WordBumps', WHERE WHAT IT READS IS OF BULK AT MOST 1048576: true; the input reads as it did. -/
def wordBumpsUptoRow : OpenClaim := { program := "ytmdkneiicfffbaa", sum := "58e00e41babf5a332c3d22c3c219d89abebbc84a5106c187365552520f2d2d13", func := "lockless/locklesslaw01.WordBumps", spec := "wordBumps", apart := false, narrowed := true }
def WordBumpsUptoSaid : Prop := wordBumpsUptoRow.holds Try.pinned (OpenSpec.upto wordBumpsSpec)

/-- 'locklesslaw01.WordUnpacks', WHERE WHAT IT READS IS OF BULK AT MOST 1048576: true; the input reads as it did. -/
def wordUnpacksUptoRow : OpenClaim := { program := "ytmdkneiicfffbaa", sum := "58e00e41babf5a332c3d22c3c219d89abebbc84a5106c187365552520f2d2d13", func := "lockless/locklesslaw01.WordUnpacks", spec := "wordUnpacks", apart := false, narrowed := true }
def WordUnpacksUptoSaid : Prop := wordUnpacksUptoRow.holds Try.pinned (OpenSpec.upto wordUnpacksSpec)

/-- 'locklesslaw01.WordWith', WHERE WHAT IT READS IS OF BULK AT MOST 1048576: true; the input reads as it did. -/
def wordWithUptoRow : OpenClaim := { program := "ytmdkneiicfffbaa", sum := "58e00e41babf5a332c3d22c3c219d89abebbc84a5106c187365552520f2d2d13", func := "lockless/locklesslaw01.WordWith", spec := "wordWith", apart := false, narrowed := true }
def WordWithUptoSaid : Prop := wordWithUptoRow.holds Try.pinned (OpenSpec.upto wordWithSpec)

/-- 'locklesslaw01.WordMarks', WHERE WHAT IT READS IS OF BULK AT MOST 1048576: true; the input reads as it did. -/
def wordMarksUptoRow : OpenClaim := { program := "ytmdkneiicfffbaa", sum := "58e00e41babf5a332c3d22c3c219d89abebbc84a5106c187365552520f2d2d13", func := "lockless/locklesslaw01.WordMarks", spec := "wordMarks", apart := false, narrowed := true }
def WordMarksUptoSaid : Prop := wordMarksUptoRow.holds Try.pinned (OpenSpec.upto wordMarksSpec)

/-- 'locklesslaw01.WordPacks', WHERE WHAT IT READS IS OF BULK AT MOST 1048576: true; the input reads as it did. -/
def wordPacksUptoRow : OpenClaim := { program := "ytmdkneiicfffbaa", sum := "58e00e41babf5a332c3d22c3c219d89abebbc84a5106c187365552520f2d2d13", func := "lockless/locklesslaw01.WordPacks", spec := "wordPacks", apart := false, narrowed := true }
def WordPacksUptoSaid : Prop := wordPacksUptoRow.holds Try.pinned (OpenSpec.upto wordPacksSpec)

end Rows
end Go.Proofs.Ytmdkneiicfffbaa
