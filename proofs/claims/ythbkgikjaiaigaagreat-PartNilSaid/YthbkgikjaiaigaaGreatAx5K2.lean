import Derived.Test.YthbkgikjaiaigaaGreatAx5F
import Derived.Test.YthbkgikjaiaigaaGreatProg
namespace Go.AM.P
set_option linter.all false
open Go Go.Proofs
theorem k11 : fnChk Tryz.prog Tryz.f11 f11 = true := by decide +kernel
theorem k23 : fnChk Tryz.prog Tryz.f23 f23 = true := by decide +kernel
theorem k29 : fnChk Tryz.prog Tryz.f29 f29 = true := by decide +kernel
theorem k31 : fnChk Tryz.prog Tryz.f31 f31 = true := by decide +kernel
theorem k66 : fnChk Tryz.prog Tryz.f66 f66 = true := by decide +kernel
theorem k92 : fnChk Tryz.prog Tryz.f92 f92 = true := by decide +kernel
theorem k107 : fnChk Tryz.prog Tryz.f107 f107 = true := by decide +kernel
theorem k137 : fnChk Tryz.prog Tryz.f137 f137 = true := by decide +kernel
theorem k138 : fnChk Tryz.prog Tryz.f138 f138 = true := by decide +kernel
theorem k139 : fnChk Tryz.prog Tryz.f139 f139 = true := by decide +kernel
theorem k149 : fnChk Tryz.prog Tryz.f149 f149 = true := by decide +kernel
theorem k150 : fnChk Tryz.prog Tryz.f150 f150 = true := by decide +kernel
theorem k156 : fnChk Tryz.prog Tryz.f156 f156 = true := by decide +kernel
theorem k157 : fnChk Tryz.prog Tryz.f157 f157 = true := by decide +kernel
theorem k179 : fnChk Tryz.prog Tryz.f179 f179 = true := by decide +kernel
theorem k180 : fnChk Tryz.prog Tryz.f180 f180 = true := by decide +kernel
theorem k185 : fnChk Tryz.prog Tryz.f185 f185 = true := by decide +kernel
theorem k187 : fnChk Tryz.prog Tryz.f187 f187 = true := by decide +kernel
theorem k189 : fnChk Tryz.prog Tryz.f189 f189 = true := by decide +kernel
theorem k193 : fnChk Tryz.prog Tryz.f193 f193 = true := by decide +kernel
theorem k194 : fnChk Tryz.prog Tryz.f194 f194 = true := by decide +kernel
theorem k206 : fnChk Tryz.prog Tryz.f206 f206 = true := by decide +kernel
theorem k230 : fnChk Tryz.prog Tryz.f230 f230 = true := by decide +kernel
theorem k232 : fnChk Tryz.prog Tryz.f232 f232 = true := by decide +kernel
theorem k248 : fnChk Tryz.prog Tryz.f248 f248 = true := by decide +kernel
theorem k249 : fnChk Tryz.prog Tryz.f249 f249 = true := by decide +kernel
theorem k262 : fnChk Tryz.prog Tryz.f262 f262 = true := by decide +kernel
theorem k288 : fnChk Tryz.prog Tryz.f288 f288 = true := by decide +kernel
theorem k295 : fnChk Tryz.prog Tryz.f295 f295 = true := by decide +kernel
theorem k297 : fnChk Tryz.prog Tryz.f297 f297 = true := by decide +kernel
theorem k306 : fnChk Tryz.prog Tryz.f306 f306 = true := by decide +kernel
theorem k325 : fnChk Tryz.prog Tryz.f325 f325 = true := by decide +kernel
theorem k344 : fnChk Tryz.prog Tryz.f344 f344 = true := by decide +kernel
theorem k349 : fnChk Tryz.prog Tryz.f349 f349 = true := by decide +kernel
end Go.AM.P
