-- PRINTED BY print.sh 35421559b90ae4d0a3588c463048766b98c2df88dd9212a6774a882060cdf62d: not written by this session
import Derived.Test.YtmbidelinmlhkaaProg
import Derived.Below
import Derived.Deep.Draws
import Derived.Deep.AppendLies
import Derived.Maps.AppendAt
import Derived.OwnWalk
import Derived.Laws.BytesArg
import Derived.Laws.MakeOwn
import Derived.Laws.OwnMore
import Derived.Deep.OwnRows
import Derived.Tactics
import Derived.Lib.ConvBytes
import Derived.Laws.Slices
import Derived.WalkKit
import Derived.KernelRfl
import Derived.RowKit3
import Derived.Deep.LoopGhost
import Derived.Deep.QuietTactic
import Derived.BigQuiet
import Derived.WideLaws
import Derived.Deep.DeepCutAuto
import Derived.Deep.CutBlock
import Derived.Deep.RegionHeld3
import Derived.Laws.Rows
import Derived.Lib.AppendStr
import Derived.ArgAppend
import Derived.Laws.IdiomCopy
import Derived.OrdersHeld
import Derived.Laws.BitsLemmas
import Derived.RowKit
import Derived.Test.YtmbidelinmlhkaaWWords
import Derived.Test.YtmbidelinmlhkaaWLast
import Derived.Test.YtmbidelinmlhkaaWTab
import Derived.Test.YtmbidelinmlhkaaWFour
import Derived.Test.YtmbidelinmlhkaaWQPut
import Derived.Test.YtmbidelinmlhkaaWApart
import Derived.Test.YtmbidelinmlhkaaWArr
import Derived.Test.YtmbidelinmlhkaaWZeros
import Derived.Test.YtmbidelinmlhkaaWFoot
import Derived.Test.YtmbidelinmlhkaaWKept
import Derived.Test.YtmbidelinmlhkaaWShare
import Derived.Test.YtmbidelinmlhkaaWN
import Derived.Test.YtmbidelinmlhkaaWFootNe
import Derived.Test.YtmbidelinmlhkaaWAt
import Derived.Test.YtmbidelinmlhkaaWEqStruct
import Derived.Test.YtmbidelinmlhkaaWRepsOne
import Derived.Test.YtmbidelinmlhkaaWInv
import Derived.Test.YtmbidelinmlhkaaWInvWords
import Derived.Test.YtmbidelinmlhkaaWGuard
import Derived.Test.YtmbidelinmlhkaaWNEv
import Derived.Test.YtmbidelinmlhkaaWMore
namespace Go.Proofs.Ytmbidelinmlhkaa.PWordPointers
open Go.RowKit Go.Proofs.YtmbidelinmlhkaaW.PrintWords Go.Proofs.YtmbidelinmlhkaaW.PrintLast Go.Proofs.YtmbidelinmlhkaaW.PrintMore
attribute [local go_sem] max2_int min2_int max_two min_two max_three min_three max_four min_four   -- for this text's walks alone
set_option linter.unusedVariables false
set_option linter.unusedSimpArgs false



def errW : Option Int → Value
  | none => .nilIface
  | some c => .iface 0 (.int .i64 c)
theorem errW_none : errW none = .nilIface := rfl
theorem errW_some (c : Int) : errW (some c) = .iface 0 (.int .i64 c) := rfl

theorem info5 : (Try.prog.info? 5).map (fun i => (i.zero, i.size, i.bytes)) = some (some (.int .u8 0), 1, 1) := by kernel_rfl
-- the values' own types

end Go.Proofs.Ytmbidelinmlhkaa.PWordPointers
