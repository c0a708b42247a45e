/-
  Proves by the kernel's own run, over the first calls, that each call laid here answers as it was laid; no conditions.
-/
import Derived.Test.YtdboceaccgiklaaGreatChunkData
import Derived.Test.YtdboceaccgiklaaGreatChunkMore
set_option linter.all false
set_option maxRecDepth 1000000
namespace Go.AM
open Go.Proofs
theorem ok_9x1240 : c9x1240.ok (evN Tryz.prog kMemo 100000) 9 = true := by kernel_rfl
theorem ok_9x1249 : c9x1249.ok (evN Tryz.prog kMemo 100000) 9 = true := by kernel_rfl
theorem ok_9x1444 : c9x1444.ok (evN Tryz.prog kMemo 100000) 9 = true := by kernel_rfl
end Go.AM
