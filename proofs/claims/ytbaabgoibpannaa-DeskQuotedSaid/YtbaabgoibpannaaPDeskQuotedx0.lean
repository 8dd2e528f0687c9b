-- PRINTED BY print.sh 35421559b90ae4d0a3588c463048766b98c2df88dd9212a6774a882060cdf62d: not written by this session
import Derived.Test.YtbaabgoibpannaaProg
import Derived.Below
import Derived.Deep.Draws
import Derived.Deep.AppendLies
import Derived.Maps.AppendAt
import Derived.OwnWalk
import Derived.Laws.BytesArg
import Derived.Laws.MakeOwn
import Derived.Laws.OwnMore
import Derived.Deep.OwnRows
import Derived.Tactics
import Derived.Lib.ConvBytes
import Derived.Laws.Slices
import Derived.WalkKit
import Derived.KernelRfl
import Derived.RowKit3
import Derived.Deep.LoopGhost
import Derived.Deep.QuietTactic
import Derived.BigQuiet
import Derived.WideLaws
import Derived.Deep.DeepCutAuto
import Derived.Deep.CutBlock
import Derived.Deep.RegionHeld3
import Derived.Laws.Rows
import Derived.Lib.AppendStr
import Derived.ArgAppend
import Derived.Laws.IdiomCopy
import Derived.OrdersHeld
import Derived.Laws.BitsLemmas
import Derived.RowKit
import Derived.Test.YtbaabgoibpannaaWWords
import Derived.Test.YtbaabgoibpannaaWLast
import Derived.Test.YtbaabgoibpannaaWTab
import Derived.Test.YtbaabgoibpannaaWFour
import Derived.Test.YtbaabgoibpannaaWQPut
import Derived.Test.YtbaabgoibpannaaWApart
import Derived.Test.YtbaabgoibpannaaWArr
import Derived.Test.YtbaabgoibpannaaWZeros
import Derived.Test.YtbaabgoibpannaaWFoot
import Derived.Test.YtbaabgoibpannaaWKept
import Derived.Test.YtbaabgoibpannaaWShare
import Derived.Test.YtbaabgoibpannaaWN
import Derived.Test.YtbaabgoibpannaaWFootNe
import Derived.Test.YtbaabgoibpannaaWAt
import Derived.Test.YtbaabgoibpannaaWEqStruct
import Derived.Test.YtbaabgoibpannaaWRepsOne
import Derived.Test.YtbaabgoibpannaaWInv
import Derived.Test.YtbaabgoibpannaaWInvWords
import Derived.Test.YtbaabgoibpannaaWGuard
import Derived.Test.YtbaabgoibpannaaWNEv
import Derived.Test.YtbaabgoibpannaaWMore
namespace Go.Proofs.Ytbaabgoibpannaa.PDeskQuoted
open Go.RowKit Go.Proofs.YtbaabgoibpannaaW.PrintWords Go.Proofs.YtbaabgoibpannaaW.PrintLast Go.Proofs.YtbaabgoibpannaaW.PrintMore
attribute [local go_sem] max2_int min2_int max_two min_two max_three min_three max_four min_four   -- for this text's walks alone
set_option linter.unusedVariables false
set_option linter.unusedSimpArgs false



def errW : Option Int → Value
  | none => .nilIface
  | some c => .iface 0 (.int .i64 c)
theorem errW_none : errW none = .nilIface := rfl
theorem errW_some (c : Int) : errW (some c) = .iface 0 (.int .i64 c) := rfl

theorem info5 : (Try.prog.info? 5).map (fun i => (i.zero, i.size, i.bytes)) = some (some (.int .u8 0), 1, 1) := by kernel_rfl
-- the values' own types

end Go.Proofs.Ytbaabgoibpannaa.PDeskQuoted
