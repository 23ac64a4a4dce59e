-- Written by wip/xprint.py for this claim.
import Derived.Test.YtpkmgiddfbfloaaProg
import Derived.Below
import Derived.Deep.Draws
import Derived.Deep.AppendLies
import Derived.Maps.AppendAt
import Derived.OwnWalk
import Derived.Laws.BytesArg
import Derived.Laws.MakeOwn
import Derived.Laws.OwnMore
import Derived.Deep.OwnRows
import Derived.Tactics
import Derived.Lib.ConvBytes
import Derived.Laws.Slices
import Derived.WalkKit
import Derived.KernelRfl
import Derived.RowKit3
import Derived.Deep.LoopGhost
import Derived.Deep.QuietTactic
import Derived.BigQuiet
import Derived.WideLaws
import Derived.Deep.DeepCutAuto
import Derived.Deep.CutBlock
import Derived.Deep.RegionHeld3
import Derived.Laws.Rows
import Derived.Lib.AppendStr
import Derived.ArgAppend
import Derived.Laws.IdiomCopy
import Derived.OrdersHeld
import Derived.Laws.BitsLemmas
import Derived.RowKit
import Derived.Test.YtpkmgiddfbfloaaShelf
import Derived.Sort.OwnSortedInts
import Derived.Lib.OwnBridge
import Derived.Test.YtpkmgiddfbfloaaXWords
import Derived.Test.YtpkmgiddfbfloaaXLast
import Derived.Test.YtpkmgiddfbfloaaXTab
import Derived.Test.YtpkmgiddfbfloaaXQPut
import Derived.Test.YtpkmgiddfbfloaaXApart
import Derived.Test.YtpkmgiddfbfloaaXFoot
import Derived.Test.YtpkmgiddfbfloaaXKept
import Derived.Test.YtpkmgiddfbfloaaXShare
import Derived.Test.YtpkmgiddfbfloaaXN
import Derived.Test.YtpkmgiddfbfloaaXAt
import Derived.Laws.StructEq
import Derived.Test.YtpkmgiddfbfloaaXRepsOne
import Derived.Test.YtpkmgiddfbfloaaXInv
import Derived.Test.YtpkmgiddfbfloaaXMore
namespace Go.Proofs.Ytpkmgiddfbfloaa.XHo
open Go.RowKit Go.Proofs.YtpkmgiddfbfloaaX.PrintWords Go.Proofs.YtpkmgiddfbfloaaX.PrintLast Go.Proofs.YtpkmgiddfbfloaaX.PrintMore
attribute [local go_sem] max2_int min2_int max_two min_two max_three min_three max_four min_four   -- for this text's walks alone
set_option linter.unusedVariables false
set_option linter.unusedSimpArgs false



def errW : Option Int → Value
  | none => .nilIface
  | some c => .iface 0 (.int .i64 c)
theorem errW_none : errW none = .nilIface := rfl
theorem errW_some (c : Int) : errW (some c) = .iface 0 (.int .i64 c) := rfl

theorem info5 : (Try.prog.info? 5).map (fun i => (i.zero, i.size, i.bytes)) = some (some (.int .u8 0), 1, 1) := by kernel_rfl
-- the values' own types

end Go.Proofs.Ytpkmgiddfbfloaa.XHo
