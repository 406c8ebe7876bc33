import Derived.Test.YthbkgikjaiaigaaGreatAx8F
import Derived.Test.YthbkgikjaiaigaaGreatProg
namespace Go.AM.P
set_option linter.all false
open Go Go.Proofs
theorem k10 : fnChk Tryz.prog Tryz.f10 f10 = true := by decide +kernel
theorem k30 : fnChk Tryz.prog Tryz.f30 f30 = true := by decide +kernel
theorem k53 : fnChk Tryz.prog Tryz.f53 f53 = true := by decide +kernel
theorem k54 : fnChk Tryz.prog Tryz.f54 f54 = true := by decide +kernel
theorem k77 : fnChk Tryz.prog Tryz.f77 f77 = true := by decide +kernel
theorem k83 : fnChk Tryz.prog Tryz.f83 f83 = true := by decide +kernel
theorem k88 : fnChk Tryz.prog Tryz.f88 f88 = true := by decide +kernel
theorem k90 : fnChk Tryz.prog Tryz.f90 f90 = true := by decide +kernel
theorem k92 : fnChk Tryz.prog Tryz.f92 f92 = true := by decide +kernel
theorem k93 : fnChk Tryz.prog Tryz.f93 f93 = true := by decide +kernel
theorem k105 : fnChk Tryz.prog Tryz.f105 f105 = true := by decide +kernel
theorem k108 : fnChk Tryz.prog Tryz.f108 f108 = true := by decide +kernel
theorem k134 : fnChk Tryz.prog Tryz.f134 f134 = true := by decide +kernel
theorem k139 : fnChk Tryz.prog Tryz.f139 f139 = true := by decide +kernel
theorem k142 : fnChk Tryz.prog Tryz.f142 f142 = true := by decide +kernel
theorem k149 : fnChk Tryz.prog Tryz.f149 f149 = true := by decide +kernel
theorem k166 : fnChk Tryz.prog Tryz.f166 f166 = true := by decide +kernel
theorem k178 : fnChk Tryz.prog Tryz.f178 f178 = true := by decide +kernel
theorem k179 : fnChk Tryz.prog Tryz.f179 f179 = true := by decide +kernel
theorem k180 : fnChk Tryz.prog Tryz.f180 f180 = true := by decide +kernel
theorem k184 : fnChk Tryz.prog Tryz.f184 f184 = true := by decide +kernel
theorem k194 : fnChk Tryz.prog Tryz.f194 f194 = true := by decide +kernel
theorem k195 : fnChk Tryz.prog Tryz.f195 f195 = true := by decide +kernel
theorem k200 : fnChk Tryz.prog Tryz.f200 f200 = true := by decide +kernel
theorem k212 : fnChk Tryz.prog Tryz.f212 f212 = true := by decide +kernel
theorem k230 : fnChk Tryz.prog Tryz.f230 f230 = true := by decide +kernel
theorem k235 : fnChk Tryz.prog Tryz.f235 f235 = true := by decide +kernel
theorem k248 : fnChk Tryz.prog Tryz.f248 f248 = true := by decide +kernel
theorem k251 : fnChk Tryz.prog Tryz.f251 f251 = true := by decide +kernel
theorem k254 : fnChk Tryz.prog Tryz.f254 f254 = true := by decide +kernel
theorem k256 : fnChk Tryz.prog Tryz.f256 f256 = true := by decide +kernel
theorem k264 : fnChk Tryz.prog Tryz.f264 f264 = true := by decide +kernel
theorem k267 : fnChk Tryz.prog Tryz.f267 f267 = true := by decide +kernel
theorem k268 : fnChk Tryz.prog Tryz.f268 f268 = true := by decide +kernel
theorem k274 : fnChk Tryz.prog Tryz.f274 f274 = true := by decide +kernel
theorem k296 : fnChk Tryz.prog Tryz.f296 f296 = true := by decide +kernel
theorem k308 : fnChk Tryz.prog Tryz.f308 f308 = true := by decide +kernel
theorem k325 : fnChk Tryz.prog Tryz.f325 f325 = true := by decide +kernel
theorem k348 : fnChk Tryz.prog Tryz.f348 f348 = true := by decide +kernel
end Go.AM.P
