/- The statement PlayOfNothing: whatever the input, the law returns true, and its arguments read as they did. -/
import Derived.Test.YtafkhpjnihnfpaaGreatRows
import Derived.WalkKit
import Derived.ProofKit
import Derived.OpenShut
import Derived.ShutString
import Derived.ChangeOld
import Derived.Below
import Derived.Test.YtafkhpjnihnfpaaGreatQPlayOfNothing3
set_option linter.all false
namespace Go.Proofs.YtafkhpjnihnfpaaGreat.playOfNothingDone
open Go.ChangeShapes Go.WideShapes Go.ChangeAt Go.RowKit

theorem own : ownKnob Tryz.prog.godebug = Option.none := by kernel_rfl
theorem laidOut : laidOutB Tryz.prog = true := by kernel_rfl

end Go.Proofs.YtafkhpjnihnfpaaGreat.playOfNothingDone

