/- What the rows' condition gives a walk: errors.errorType is laid; a world that meets it. (Turned from the worked proof ToyasProofs.) -/
import Derived.Test.YtmgppnceddnlmaaRows
import Derived.Test.YtmgppnceddnlmaaTold
import Derived.ProofKit
import Derived.OpenShut
import Derived.ShutString
import Derived.ChangeOld
import Derived.ChangeSame
import Derived.ChangeVars
import Derived.JoinedOf
import Derived.LaidLaws
import Derived.LaidHandle
import Derived.Stop.Joined
import Derived.Deep.Strs
import Derived.Deep.Matrix
import Derived.SevenTiedAt
namespace Go.Proofs.Ytmgppnceddnlmaa
open Go.ChangeShapes Go.WideShapes Go.RowKit

theorem Try.own : ownKnob Try.prog.godebug = none := by kernel_rfl
theorem Try.laidOut : laidOutB Try.prog = true := by kernel_rfl
end Go.Proofs.Ytmgppnceddnlmaa
