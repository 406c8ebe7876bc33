import Derived.Test.YthbkgikjaiaigaaGreatAx5F
import Derived.Test.YthbkgikjaiaigaaGreatProg
namespace Go.AM.P
set_option linter.all false
open Go Go.Proofs
theorem k9 : fnChk Tryz.prog Tryz.f9 f9 = true := by decide +kernel
theorem k24 : fnChk Tryz.prog Tryz.f24 f24 = true := by decide +kernel
theorem k26 : fnChk Tryz.prog Tryz.f26 f26 = true := by decide +kernel
theorem k27 : fnChk Tryz.prog Tryz.f27 f27 = true := by decide +kernel
theorem k77 : fnChk Tryz.prog Tryz.f77 f77 = true := by decide +kernel
theorem k78 : fnChk Tryz.prog Tryz.f78 f78 = true := by decide +kernel
theorem k83 : fnChk Tryz.prog Tryz.f83 f83 = true := by decide +kernel
theorem k84 : fnChk Tryz.prog Tryz.f84 f84 = true := by decide +kernel
theorem k94 : fnChk Tryz.prog Tryz.f94 f94 = true := by decide +kernel
theorem k95 : fnChk Tryz.prog Tryz.f95 f95 = true := by decide +kernel
theorem k106 : fnChk Tryz.prog Tryz.f106 f106 = true := by decide +kernel
theorem k151 : fnChk Tryz.prog Tryz.f151 f151 = true := by decide +kernel
theorem k166 : fnChk Tryz.prog Tryz.f166 f166 = true := by decide +kernel
theorem k167 : fnChk Tryz.prog Tryz.f167 f167 = true := by decide +kernel
theorem k168 : fnChk Tryz.prog Tryz.f168 f168 = true := by decide +kernel
theorem k178 : fnChk Tryz.prog Tryz.f178 f178 = true := by decide +kernel
theorem k181 : fnChk Tryz.prog Tryz.f181 f181 = true := by decide +kernel
theorem k182 : fnChk Tryz.prog Tryz.f182 f182 = true := by decide +kernel
theorem k183 : fnChk Tryz.prog Tryz.f183 f183 = true := by decide +kernel
theorem k186 : fnChk Tryz.prog Tryz.f186 f186 = true := by decide +kernel
theorem k226 : rfnChk Tryz.prog Tryz.f226 f226 = true := by decide +kernel
theorem k228 : fnChk Tryz.prog Tryz.f228 f228 = true := by decide +kernel
theorem k231 : fnChk Tryz.prog Tryz.f231 f231 = true := by decide +kernel
theorem k233 : fnChk Tryz.prog Tryz.f233 f233 = true := by decide +kernel
theorem k250 : fnChk Tryz.prog Tryz.f250 f250 = true := by decide +kernel
theorem k253 : fnChk Tryz.prog Tryz.f253 f253 = true := by decide +kernel
theorem k265 : fnChk Tryz.prog Tryz.f265 f265 = true := by decide +kernel
theorem k267 : fnChk Tryz.prog Tryz.f267 f267 = true := by decide +kernel
theorem k274 : fnChk Tryz.prog Tryz.f274 f274 = true := by decide +kernel
theorem k293 : fnChk Tryz.prog Tryz.f293 f293 = true := by decide +kernel
theorem k298 : fnChk Tryz.prog Tryz.f298 f298 = true := by decide +kernel
theorem k302 : fnChk Tryz.prog Tryz.f302 f302 = true := by decide +kernel
theorem k346 : fnChk Tryz.prog Tryz.f346 f346 = true := by decide +kernel
theorem k348 : fnChk Tryz.prog Tryz.f348 f348 = true := by decide +kernel
end Go.AM.P
