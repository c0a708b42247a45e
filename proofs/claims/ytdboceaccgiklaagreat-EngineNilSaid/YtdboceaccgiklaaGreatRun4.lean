/-
  Proves by the kernel's own run that each call laid here answers as it was laid; no conditions.
-/
import Derived.Test.YtdboceaccgiklaaGreatChunkData
set_option linter.all false
set_option maxRecDepth 1000000
namespace Go.AM
open Go.Proofs
theorem ok_171x329 : c171x329.ok (evN Tryz.prog kBase 100000) 171 = true := by kernel_rfl
theorem ok_171x352 : c171x352.ok (evN Tryz.prog kBase 100000) 171 = true := by kernel_rfl
theorem ok_171x375 : c171x375.ok (evN Tryz.prog kBase 100000) 171 = true := by kernel_rfl
theorem ok_171x398 : c171x398.ok (evN Tryz.prog kBase 100000) 171 = true := by kernel_rfl
end Go.AM
