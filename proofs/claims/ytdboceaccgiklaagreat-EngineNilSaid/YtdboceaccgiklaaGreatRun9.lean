/-
  Proves by the kernel's own run that each call laid here answers as it was laid; no conditions.
-/
import Derived.Test.YtdboceaccgiklaaGreatChunkData
set_option linter.all false
set_option maxRecDepth 1000000
namespace Go.AM
open Go.Proofs
theorem ok_228x938 : c228x938.ok (evN Tryz.prog kBase 100000) 228 = true := by kernel_rfl
end Go.AM
