/-
  Proves by the kernel's own run that each call laid here answers as it was laid; no conditions.
-/
import Derived.Test.YtdboceaccgiklaaGreatChunkData
set_option linter.all false
set_option maxRecDepth 1000000
namespace Go.AM
open Go.Proofs
theorem ok_171x421 : c171x421.ok (evN Tryz.prog kBase 100000) 171 = true := by kernel_rfl
theorem ok_171x444 : c171x444.ok (evN Tryz.prog kBase 100000) 171 = true := by kernel_rfl
theorem ok_171x467 : c171x467.ok (evN Tryz.prog kBase 100000) 171 = true := by kernel_rfl
end Go.AM
