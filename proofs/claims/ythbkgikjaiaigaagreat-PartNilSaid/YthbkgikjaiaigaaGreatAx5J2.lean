import Derived.Test.YthbkgikjaiaigaaGreatRows
import Derived.Test.YthbkgikjaiaigaaGreatChecked
import Derived.WalkKit
import Derived.ProofKit
import Derived.OpenShut
import Derived.ChangeOld
import Derived.SizedLaws
namespace Go.Proofs.YthbkgikjaiaigaaGreat.partNil
set_option linter.all false
open Go.ChangeShapes Go.WideShapes Go.ChangeAt Go.RowKit
theorem j13 : (Rows.partNilRow.named == Tryz.prog.varsNamed 5) = true := by kernel_rfl
end Go.Proofs.YthbkgikjaiaigaaGreat.partNil
