import Derived.Test.YthbkgikjaiaigaaGreatRows
import Derived.Test.YthbkgikjaiaigaaGreatChecked
import Derived.WalkKit
import Derived.ProofKit
import Derived.OpenShut
import Derived.ShutString
import Derived.ChangeOld
import Derived.Below
import Derived.SizedLaws
import Derived.Carry
namespace Go.Proofs.YthbkgikjaiaigaaGreat.offsetsRecords
set_option linter.all false
open Go.ChangeShapes Go.WideShapes Go.ChangeAt Go.RowKit
theorem j13 : (Rows.offsetsRecordsRow.named == Tryz.prog.varsNamed 4) = true := by kernel_rfl
end Go.Proofs.YthbkgikjaiaigaaGreat.offsetsRecords
