/-
  Proves by the kernel's own run that each call laid here answers as it was laid; no conditions.
-/
import Derived.Test.YtdboceaccgiklaaGreatChunkData
set_option linter.all false
set_option maxRecDepth 1000000
namespace Go.AM
open Go.Proofs
theorem ok_171x145 : c171x145.ok (evN Tryz.prog kBase 100000) 171 = true := by kernel_rfl
theorem ok_171x168 : c171x168.ok (evN Tryz.prog kBase 100000) 171 = true := by kernel_rfl
theorem ok_171x191 : c171x191.ok (evN Tryz.prog kBase 100000) 171 = true := by kernel_rfl
theorem ok_171x214 : c171x214.ok (evN Tryz.prog kBase 100000) 171 = true := by kernel_rfl
end Go.AM
