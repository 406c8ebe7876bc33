import Derived.Test.YthbkgikjaiaigaaGreatY4J0
import Derived.Test.YthbkgikjaiaigaaGreatY4J1
import Derived.Test.YthbkgikjaiaigaaGreatY4J2
import Derived.Test.YthbkgikjaiaigaaGreatY4J3
import Derived.Test.YthbkgikjaiaigaaGreatY4J4
namespace Go.Proofs.YthbkgikjaiaigaaGreat.offsetsRecords
set_option linter.all false
open Go.ChangeShapes Go.WideShapes Go.ChangeAt Go.RowKit
theorem ba {a b : Bool} (h : a = true) (k : b = true) : (a && b) = true := by rw [h, k]; rfl
theorem closed : joinedFacts Tryz.prog 4 Tryz.f4 Rows.offsetsRecordsSpec Rows.offsetsRecordsRow = true := by
  unfold joinedFacts
  rw [j1, j2, j3, j4, j5, j6, j7, j8, j9, j10, j11, j12, j13, j14, j15, j16, j17, j18, j19, j20, j21, j22, j23, j24, j25, j26, j27, j28]
  refine ba (ba (ba (ba ?_ ?_) j30) j31) j32
  · rfl
  · kernel_rfl
end Go.Proofs.YthbkgikjaiaigaaGreat.offsetsRecords
