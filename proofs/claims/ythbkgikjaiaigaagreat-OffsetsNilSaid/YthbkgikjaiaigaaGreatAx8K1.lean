import Derived.Test.YthbkgikjaiaigaaGreatAx8F
import Derived.Test.YthbkgikjaiaigaaGreatProg
namespace Go.AM.P
set_option linter.all false
open Go Go.Proofs
theorem k15 : fnChk Tryz.prog Tryz.f15 f15 = true := by decide +kernel
theorem k21 : fnChk Tryz.prog Tryz.f21 f21 = true := by decide +kernel
theorem k58 : fnChk Tryz.prog Tryz.f58 f58 = true := by decide +kernel
theorem k59 : fnChk Tryz.prog Tryz.f59 f59 = true := by decide +kernel
theorem k61 : fnChk Tryz.prog Tryz.f61 f61 = true := by decide +kernel
theorem k64 : fnChk Tryz.prog Tryz.f64 f64 = true := by decide +kernel
theorem k95 : fnChk Tryz.prog Tryz.f95 f95 = true := by decide +kernel
theorem k106 : fnChk Tryz.prog Tryz.f106 f106 = true := by decide +kernel
theorem k136 : fnChk Tryz.prog Tryz.f136 f136 = true := by decide +kernel
theorem k143 : fnChk Tryz.prog Tryz.f143 f143 = true := by decide +kernel
theorem k146 : fnChk Tryz.prog Tryz.f146 f146 = true := by decide +kernel
theorem k147 : fnChk Tryz.prog Tryz.f147 f147 = true := by decide +kernel
theorem k148 : fnChk Tryz.prog Tryz.f148 f148 = true := by decide +kernel
theorem k150 : fnChk Tryz.prog Tryz.f150 f150 = true := by decide +kernel
theorem k165 : fnChk Tryz.prog Tryz.f165 f165 = true := by decide +kernel
theorem k168 : fnChk Tryz.prog Tryz.f168 f168 = true := by decide +kernel
theorem k173 : fnChk Tryz.prog Tryz.f173 f173 = true := by decide +kernel
theorem k174 : fnChk Tryz.prog Tryz.f174 f174 = true := by decide +kernel
theorem k177 : fnChk Tryz.prog Tryz.f177 f177 = true := by decide +kernel
theorem k182 : fnChk Tryz.prog Tryz.f182 f182 = true := by decide +kernel
theorem k185 : fnChk Tryz.prog Tryz.f185 f185 = true := by decide +kernel
theorem k186 : fnChk Tryz.prog Tryz.f186 f186 = true := by decide +kernel
theorem k196 : fnChk Tryz.prog Tryz.f196 f196 = true := by decide +kernel
theorem k205 : fnChk Tryz.prog Tryz.f205 f205 = true := by decide +kernel
theorem k206 : fnChk Tryz.prog Tryz.f206 f206 = true := by decide +kernel
theorem k208 : fnChk Tryz.prog Tryz.f208 f208 = true := by decide +kernel
theorem k224 : fnChk Tryz.prog Tryz.f224 f224 = true := by decide +kernel
theorem k226 : rfnChk Tryz.prog Tryz.f226 f226 = true := by decide +kernel
theorem k237 : fnChk Tryz.prog Tryz.f237 f237 = true := by decide +kernel
theorem k247 : fnChk Tryz.prog Tryz.f247 f247 = true := by decide +kernel
theorem k253 : fnChk Tryz.prog Tryz.f253 f253 = true := by decide +kernel
theorem k257 : fnChk Tryz.prog Tryz.f257 f257 = true := by decide +kernel
theorem k258 : fnChk Tryz.prog Tryz.f258 f258 = true := by decide +kernel
theorem k266 : fnChk Tryz.prog Tryz.f266 f266 = true := by decide +kernel
theorem k291 : fnChk Tryz.prog Tryz.f291 f291 = true := by decide +kernel
theorem k293 : fnChk Tryz.prog Tryz.f293 f293 = true := by decide +kernel
theorem k307 : fnChk Tryz.prog Tryz.f307 f307 = true := by decide +kernel
theorem k323 : fnChk Tryz.prog Tryz.f323 f323 = true := by decide +kernel
theorem k324 : fnChk Tryz.prog Tryz.f324 f324 = true := by decide +kernel
theorem k363 : fnChk Tryz.prog Tryz.f363 f363 = true := by decide +kernel
end Go.AM.P
