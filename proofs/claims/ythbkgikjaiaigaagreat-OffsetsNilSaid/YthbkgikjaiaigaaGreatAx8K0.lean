import Derived.Test.YthbkgikjaiaigaaGreatAx8F
import Derived.Test.YthbkgikjaiaigaaGreatProg
namespace Go.AM.P
set_option linter.all false
open Go Go.Proofs
theorem k8 : fnChk Tryz.prog Tryz.f8 f8 = true := by decide +kernel
theorem k18 : fnChk Tryz.prog Tryz.f18 f18 = true := by decide +kernel
theorem k31 : fnChk Tryz.prog Tryz.f31 f31 = true := by decide +kernel
theorem k32 : fnChk Tryz.prog Tryz.f32 f32 = true := by decide +kernel
theorem k55 : fnChk Tryz.prog Tryz.f55 f55 = true := by decide +kernel
theorem k57 : fnChk Tryz.prog Tryz.f57 f57 = true := by decide +kernel
theorem k60 : fnChk Tryz.prog Tryz.f60 f60 = true := by decide +kernel
theorem k79 : fnChk Tryz.prog Tryz.f79 f79 = true := by decide +kernel
theorem k82 : fnChk Tryz.prog Tryz.f82 f82 = true := by decide +kernel
theorem k84 : fnChk Tryz.prog Tryz.f84 f84 = true := by decide +kernel
theorem k86 : fnChk Tryz.prog Tryz.f86 f86 = true := by decide +kernel
theorem k87 : fnChk Tryz.prog Tryz.f87 f87 = true := by decide +kernel
theorem k89 : fnChk Tryz.prog Tryz.f89 f89 = true := by decide +kernel
theorem k109 : fnChk Tryz.prog Tryz.f109 f109 = true := by decide +kernel
theorem k167 : fnChk Tryz.prog Tryz.f167 f167 = true := by decide +kernel
theorem k172 : fnChk Tryz.prog Tryz.f172 f172 = true := by decide +kernel
theorem k183 : fnChk Tryz.prog Tryz.f183 f183 = true := by decide +kernel
theorem k187 : fnChk Tryz.prog Tryz.f187 f187 = true := by decide +kernel
theorem k193 : fnChk Tryz.prog Tryz.f193 f193 = true := by decide +kernel
theorem k211 : fnChk Tryz.prog Tryz.f211 f211 = true := by decide +kernel
theorem k220 : fnChk Tryz.prog Tryz.f220 f220 = true := by decide +kernel
theorem k228 : fnChk Tryz.prog Tryz.f228 f228 = true := by decide +kernel
theorem k233 : fnChk Tryz.prog Tryz.f233 f233 = true := by decide +kernel
theorem k238 : fnChk Tryz.prog Tryz.f238 f238 = true := by decide +kernel
theorem k250 : fnChk Tryz.prog Tryz.f250 f250 = true := by decide +kernel
theorem k265 : fnChk Tryz.prog Tryz.f265 f265 = true := by decide +kernel
theorem k269 : fnChk Tryz.prog Tryz.f269 f269 = true := by decide +kernel
theorem k272 : fnChk Tryz.prog Tryz.f272 f272 = true := by decide +kernel
theorem k273 : fnChk Tryz.prog Tryz.f273 f273 = true := by decide +kernel
theorem k288 : fnChk Tryz.prog Tryz.f288 f288 = true := by decide +kernel
theorem k290 : fnChk Tryz.prog Tryz.f290 f290 = true := by decide +kernel
theorem k294 : fnChk Tryz.prog Tryz.f294 f294 = true := by decide +kernel
theorem k297 : fnChk Tryz.prog Tryz.f297 f297 = true := by decide +kernel
theorem k298 : fnChk Tryz.prog Tryz.f298 f298 = true := by decide +kernel
theorem k299 : fnChk Tryz.prog Tryz.f299 f299 = true := by decide +kernel
theorem k300 : fnChk Tryz.prog Tryz.f300 f300 = true := by decide +kernel
theorem k301 : fnChk Tryz.prog Tryz.f301 f301 = true := by decide +kernel
theorem k302 : fnChk Tryz.prog Tryz.f302 f302 = true := by decide +kernel
theorem k344 : fnChk Tryz.prog Tryz.f344 f344 = true := by decide +kernel
theorem k349 : fnChk Tryz.prog Tryz.f349 f349 = true := by decide +kernel
end Go.AM.P
