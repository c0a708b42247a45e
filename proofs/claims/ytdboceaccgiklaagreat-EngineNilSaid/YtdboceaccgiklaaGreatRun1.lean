/-
  Proves by the kernel's own run that each call laid here answers as it was laid; no conditions.
-/
import Derived.Test.YtdboceaccgiklaaGreatChunkData
set_option linter.all false
set_option maxRecDepth 1000000
namespace Go.AM
open Go.Proofs
theorem ok_171x53 : c171x53.ok (evN Tryz.prog kBase 100000) 171 = true := by kernel_rfl
theorem ok_171x76 : c171x76.ok (evN Tryz.prog kBase 100000) 171 = true := by kernel_rfl
theorem ok_171x99 : c171x99.ok (evN Tryz.prog kBase 100000) 171 = true := by kernel_rfl
theorem ok_171x122 : c171x122.ok (evN Tryz.prog kBase 100000) 171 = true := by kernel_rfl
end Go.AM
