import Derived.Test.YthbkgikjaiaigaaGreatAx5F
import Derived.Test.YthbkgikjaiaigaaGreatProg
namespace Go.AM.P
set_option linter.all false
open Go Go.Proofs
theorem k5 : fnChk Tryz.prog Tryz.f5 f5 = true := by decide +kernel
theorem k10 : fnChk Tryz.prog Tryz.f10 f10 = true := by decide +kernel
theorem k25 : fnChk Tryz.prog Tryz.f25 f25 = true := by decide +kernel
theorem k28 : fnChk Tryz.prog Tryz.f28 f28 = true := by decide +kernel
theorem k32 : fnChk Tryz.prog Tryz.f32 f32 = true := by decide +kernel
theorem k61 : fnChk Tryz.prog Tryz.f61 f61 = true := by decide +kernel
theorem k62 : fnChk Tryz.prog Tryz.f62 f62 = true := by decide +kernel
theorem k67 : fnChk Tryz.prog Tryz.f67 f67 = true := by decide +kernel
theorem k68 : fnChk Tryz.prog Tryz.f68 f68 = true := by decide +kernel
theorem k88 : fnChk Tryz.prog Tryz.f88 f88 = true := by decide +kernel
theorem k90 : fnChk Tryz.prog Tryz.f90 f90 = true := by decide +kernel
theorem k91 : fnChk Tryz.prog Tryz.f91 f91 = true := by decide +kernel
theorem k93 : fnChk Tryz.prog Tryz.f93 f93 = true := by decide +kernel
theorem k142 : fnChk Tryz.prog Tryz.f142 f142 = true := by decide +kernel
theorem k143 : fnChk Tryz.prog Tryz.f143 f143 = true := by decide +kernel
theorem k147 : fnChk Tryz.prog Tryz.f147 f147 = true := by decide +kernel
theorem k148 : fnChk Tryz.prog Tryz.f148 f148 = true := by decide +kernel
theorem k175 : fnChk Tryz.prog Tryz.f175 f175 = true := by decide +kernel
theorem k177 : fnChk Tryz.prog Tryz.f177 f177 = true := by decide +kernel
theorem k196 : fnChk Tryz.prog Tryz.f196 f196 = true := by decide +kernel
theorem k205 : fnChk Tryz.prog Tryz.f205 f205 = true := by decide +kernel
theorem k207 : fnChk Tryz.prog Tryz.f207 f207 = true := by decide +kernel
theorem k208 : fnChk Tryz.prog Tryz.f208 f208 = true := by decide +kernel
theorem k220 : fnChk Tryz.prog Tryz.f220 f220 = true := by decide +kernel
theorem k237 : fnChk Tryz.prog Tryz.f237 f237 = true := by decide +kernel
theorem k238 : fnChk Tryz.prog Tryz.f238 f238 = true := by decide +kernel
theorem k247 : fnChk Tryz.prog Tryz.f247 f247 = true := by decide +kernel
theorem k254 : fnChk Tryz.prog Tryz.f254 f254 = true := by decide +kernel
theorem k256 : fnChk Tryz.prog Tryz.f256 f256 = true := by decide +kernel
theorem k269 : fnChk Tryz.prog Tryz.f269 f269 = true := by decide +kernel
theorem k296 : fnChk Tryz.prog Tryz.f296 f296 = true := by decide +kernel
theorem k299 : fnChk Tryz.prog Tryz.f299 f299 = true := by decide +kernel
theorem k323 : fnChk Tryz.prog Tryz.f323 f323 = true := by decide +kernel
theorem k324 : fnChk Tryz.prog Tryz.f324 f324 = true := by decide +kernel
end Go.AM.P
