-- text made by a program of this session, for this seat
import Derived.Test.YtmdkneiicfffbaaProg
import Derived.Below
import Derived.Deep.Draws
import Derived.Deep.AppendLies
import Derived.Maps.AppendAt
import Derived.OwnWalk
import Derived.Laws.BytesArg
import Derived.Laws.MakeOwn
import Derived.Laws.OwnMore
import Derived.Deep.OwnRows
import Derived.Tactics
import Derived.Lib.ConvBytes
import Derived.Laws.Slices
import Derived.WalkKit
import Derived.KernelRfl
import Derived.RowKit3
import Derived.Deep.LoopGhost
import Derived.Deep.QuietTactic
import Derived.BigQuiet
import Derived.WideLaws
import Derived.Deep.DeepCutAuto
import Derived.Deep.CutBlock
import Derived.Deep.RegionHeld3
import Derived.Laws.Rows
import Derived.Lib.AppendStr
import Derived.ArgAppend
import Derived.Laws.IdiomCopy
import Derived.OrdersHeld
import Derived.Laws.BitsLemmas
import Derived.RowKit
import Derived.Test.YtmdkneiicfffbaaWWords
import Derived.Test.YtmdkneiicfffbaaWLast
import Derived.Test.YtmdkneiicfffbaaWTab
import Derived.Test.YtmdkneiicfffbaaWFour
import Derived.Test.YtmdkneiicfffbaaWQPut
import Derived.Test.YtmdkneiicfffbaaWApart
import Derived.Test.YtmdkneiicfffbaaWArr
import Derived.Test.YtmdkneiicfffbaaWZeros
import Derived.Test.YtmdkneiicfffbaaWFoot
import Derived.Test.YtmdkneiicfffbaaWKept
import Derived.Test.YtmdkneiicfffbaaWShare
import Derived.Test.YtmdkneiicfffbaaWN
import Derived.Test.YtmdkneiicfffbaaWFootNe
import Derived.Test.YtmdkneiicfffbaaWAt
import Derived.Test.YtmdkneiicfffbaaWEqStruct
import Derived.Test.YtmdkneiicfffbaaWRepsOne
import Derived.Test.YtmdkneiicfffbaaWInv
import Derived.Test.YtmdkneiicfffbaaWInvWords
import Derived.Test.YtmdkneiicfffbaaWGuard
import Derived.Test.YtmdkneiicfffbaaWNEv
import Derived.Test.YtmdkneiicfffbaaWMore
namespace Go.Proofs.Ytmdkneiicfffbaa.PWordAscends
open Go.RowKit Go.Proofs.YtmdkneiicfffbaaW.PrintWords Go.Proofs.YtmdkneiicfffbaaW.PrintLast Go.Proofs.YtmdkneiicfffbaaW.PrintMore
attribute [local go_sem] max2_int min2_int max_two min_two max_three min_three max_four min_four   -- for this text's walks alone
set_option linter.unusedVariables false
set_option linter.unusedSimpArgs false



def errW : Option Int → Value
  | none => .nilIface
  | some c => .iface 0 (.int .i64 c)
theorem errW_none : errW none = .nilIface := rfl
theorem errW_some (c : Int) : errW (some c) = .iface 0 (.int .i64 c) := rfl

theorem info3 : (Try.prog.info? 3).map (fun i => (i.zero, i.size, i.bytes)) = some (some (.int .i64 0), 1, 8) := by kernel_rfl
-- the values' own types

end Go.Proofs.Ytmdkneiicfffbaa.PWordAscends
