import Derived.Test.YthbkgikjaiaigaaGreatAx8F
import Derived.Test.YthbkgikjaiaigaaGreatProg
namespace Go.AM.P
set_option linter.all false
open Go Go.Proofs
theorem k9 : fnChk Tryz.prog Tryz.f9 f9 = true := by decide +kernel
theorem k22 : fnChk Tryz.prog Tryz.f22 f22 = true := by decide +kernel
theorem k23 : fnChk Tryz.prog Tryz.f23 f23 = true := by decide +kernel
theorem k25 : fnChk Tryz.prog Tryz.f25 f25 = true := by decide +kernel
theorem k29 : fnChk Tryz.prog Tryz.f29 f29 = true := by decide +kernel
theorem k56 : fnChk Tryz.prog Tryz.f56 f56 = true := by decide +kernel
theorem k62 : fnChk Tryz.prog Tryz.f62 f62 = true := by decide +kernel
theorem k63 : fnChk Tryz.prog Tryz.f63 f63 = true := by decide +kernel
theorem k66 : fnChk Tryz.prog Tryz.f66 f66 = true := by decide +kernel
theorem k67 : fnChk Tryz.prog Tryz.f67 f67 = true := by decide +kernel
theorem k68 : fnChk Tryz.prog Tryz.f68 f68 = true := by decide +kernel
theorem k76 : fnChk Tryz.prog Tryz.f76 f76 = true := by decide +kernel
theorem k78 : fnChk Tryz.prog Tryz.f78 f78 = true := by decide +kernel
theorem k91 : fnChk Tryz.prog Tryz.f91 f91 = true := by decide +kernel
theorem k94 : fnChk Tryz.prog Tryz.f94 f94 = true := by decide +kernel
theorem k104 : fnChk Tryz.prog Tryz.f104 f104 = true := by decide +kernel
theorem k107 : fnChk Tryz.prog Tryz.f107 f107 = true := by decide +kernel
theorem k132 : fnChk Tryz.prog Tryz.f132 f132 = true := by decide +kernel
theorem k135 : fnChk Tryz.prog Tryz.f135 f135 = true := by decide +kernel
theorem k137 : fnChk Tryz.prog Tryz.f137 f137 = true := by decide +kernel
theorem k138 : fnChk Tryz.prog Tryz.f138 f138 = true := by decide +kernel
theorem k144 : fnChk Tryz.prog Tryz.f144 f144 = true := by decide +kernel
theorem k151 : fnChk Tryz.prog Tryz.f151 f151 = true := by decide +kernel
theorem k156 : fnChk Tryz.prog Tryz.f156 f156 = true := by decide +kernel
theorem k157 : fnChk Tryz.prog Tryz.f157 f157 = true := by decide +kernel
theorem k175 : fnChk Tryz.prog Tryz.f175 f175 = true := by decide +kernel
theorem k176 : fnChk Tryz.prog Tryz.f176 f176 = true := by decide +kernel
theorem k181 : fnChk Tryz.prog Tryz.f181 f181 = true := by decide +kernel
theorem k189 : fnChk Tryz.prog Tryz.f189 f189 = true := by decide +kernel
theorem k213 : fnChk Tryz.prog Tryz.f213 f213 = true := by decide +kernel
theorem k231 : fnChk Tryz.prog Tryz.f231 f231 = true := by decide +kernel
theorem k232 : fnChk Tryz.prog Tryz.f232 f232 = true := by decide +kernel
theorem k243 : fnChk Tryz.prog Tryz.f243 f243 = true := by decide +kernel
theorem k249 : fnChk Tryz.prog Tryz.f249 f249 = true := by decide +kernel
theorem k252 : fnChk Tryz.prog Tryz.f252 f252 = true := by decide +kernel
theorem k262 : fnChk Tryz.prog Tryz.f262 f262 = true := by decide +kernel
theorem k295 : fnChk Tryz.prog Tryz.f295 f295 = true := by decide +kernel
theorem k306 : fnChk Tryz.prog Tryz.f306 f306 = true := by decide +kernel
theorem k346 : fnChk Tryz.prog Tryz.f346 f346 = true := by decide +kernel
end Go.AM.P
