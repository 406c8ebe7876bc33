import Derived.Test.YthbkgikjaiaigaaGreatAx5F
import Derived.Test.YthbkgikjaiaigaaGreatProg
namespace Go.AM.P
set_option linter.all false
open Go Go.Proofs
theorem k22 : fnChk Tryz.prog Tryz.f22 f22 = true := by decide +kernel
theorem k30 : fnChk Tryz.prog Tryz.f30 f30 = true := by decide +kernel
theorem k63 : fnChk Tryz.prog Tryz.f63 f63 = true := by decide +kernel
theorem k64 : fnChk Tryz.prog Tryz.f64 f64 = true := by decide +kernel
theorem k82 : fnChk Tryz.prog Tryz.f82 f82 = true := by decide +kernel
theorem k89 : fnChk Tryz.prog Tryz.f89 f89 = true := by decide +kernel
theorem k104 : fnChk Tryz.prog Tryz.f104 f104 = true := by decide +kernel
theorem k105 : fnChk Tryz.prog Tryz.f105 f105 = true := by decide +kernel
theorem k135 : fnChk Tryz.prog Tryz.f135 f135 = true := by decide +kernel
theorem k136 : fnChk Tryz.prog Tryz.f136 f136 = true := by decide +kernel
theorem k144 : fnChk Tryz.prog Tryz.f144 f144 = true := by decide +kernel
theorem k146 : fnChk Tryz.prog Tryz.f146 f146 = true := by decide +kernel
theorem k165 : fnChk Tryz.prog Tryz.f165 f165 = true := by decide +kernel
theorem k173 : fnChk Tryz.prog Tryz.f173 f173 = true := by decide +kernel
theorem k174 : fnChk Tryz.prog Tryz.f174 f174 = true := by decide +kernel
theorem k176 : fnChk Tryz.prog Tryz.f176 f176 = true := by decide +kernel
theorem k184 : fnChk Tryz.prog Tryz.f184 f184 = true := by decide +kernel
theorem k195 : fnChk Tryz.prog Tryz.f195 f195 = true := by decide +kernel
theorem k235 : fnChk Tryz.prog Tryz.f235 f235 = true := by decide +kernel
theorem k243 : fnChk Tryz.prog Tryz.f243 f243 = true := by decide +kernel
theorem k251 : fnChk Tryz.prog Tryz.f251 f251 = true := by decide +kernel
theorem k252 : fnChk Tryz.prog Tryz.f252 f252 = true := by decide +kernel
theorem k257 : fnChk Tryz.prog Tryz.f257 f257 = true := by decide +kernel
theorem k258 : fnChk Tryz.prog Tryz.f258 f258 = true := by decide +kernel
theorem k264 : fnChk Tryz.prog Tryz.f264 f264 = true := by decide +kernel
theorem k266 : fnChk Tryz.prog Tryz.f266 f266 = true := by decide +kernel
theorem k268 : fnChk Tryz.prog Tryz.f268 f268 = true := by decide +kernel
theorem k291 : fnChk Tryz.prog Tryz.f291 f291 = true := by decide +kernel
theorem k294 : fnChk Tryz.prog Tryz.f294 f294 = true := by decide +kernel
theorem k300 : fnChk Tryz.prog Tryz.f300 f300 = true := by decide +kernel
theorem k301 : fnChk Tryz.prog Tryz.f301 f301 = true := by decide +kernel
theorem k307 : fnChk Tryz.prog Tryz.f307 f307 = true := by decide +kernel
theorem k308 : fnChk Tryz.prog Tryz.f308 f308 = true := by decide +kernel
theorem k363 : fnChk Tryz.prog Tryz.f363 f363 = true := by decide +kernel
end Go.AM.P
