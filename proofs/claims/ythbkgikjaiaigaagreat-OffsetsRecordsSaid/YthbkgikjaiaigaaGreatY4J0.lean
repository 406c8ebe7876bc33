import Derived.Test.YthbkgikjaiaigaaGreatRows
import Derived.Test.YthbkgikjaiaigaaGreatChecked
import Derived.WalkKit
import Derived.ProofKit
import Derived.OpenShut
import Derived.ShutString
import Derived.ChangeOld
import Derived.Below
import Derived.SizedLaws
import Derived.Carry
namespace Go.Proofs.YthbkgikjaiaigaaGreat.offsetsRecords
set_option linter.all false
open Go.ChangeShapes Go.WideShapes Go.ChangeAt Go.RowKit
theorem j2 : laidOutB Tryz.prog = true := by kernel_rfl
end Go.Proofs.YthbkgikjaiaigaaGreat.offsetsRecords
