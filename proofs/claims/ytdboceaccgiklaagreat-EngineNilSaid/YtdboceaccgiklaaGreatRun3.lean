/-
  Proves by the kernel's own run that each call laid here answers as it was laid; no conditions.
-/
import Derived.Test.YtdboceaccgiklaaGreatChunkData
set_option linter.all false
set_option maxRecDepth 1000000
namespace Go.AM
open Go.Proofs
theorem ok_171x237 : c171x237.ok (evN Tryz.prog kBase 100000) 171 = true := by kernel_rfl
theorem ok_171x260 : c171x260.ok (evN Tryz.prog kBase 100000) 171 = true := by kernel_rfl
theorem ok_171x283 : c171x283.ok (evN Tryz.prog kBase 100000) 171 = true := by kernel_rfl
theorem ok_171x306 : c171x306.ok (evN Tryz.prog kBase 100000) 171 = true := by kernel_rfl
end Go.AM
