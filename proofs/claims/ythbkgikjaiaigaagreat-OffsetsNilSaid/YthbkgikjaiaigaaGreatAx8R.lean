import Derived.Test.YthbkgikjaiaigaaGreatAx8T
import Derived.Test.YthbkgikjaiaigaaGreatAmRow
namespace Go.AM.P
set_option linter.all false
open Go Go.Proofs Go.AM
def calls : Calls' := callD ranged table 1000 200
theorem calls_sound : SoundC Tryz.prog calls := callD_sound ranged_ok table_ok 200
theorem nil_true : isTrue (calls 8 [.undef, .undef, .undef] St.empty) = true := by decide +kernel
end Go.AM.P
