/-
  Proves a closed fact of the row, which functions run in place, by the kernel's own run; no conditions.
-/
import Derived.Test.YtdboceaccgiklaaGreatRows
import Derived.ProofKit
set_option linter.all false
set_option maxRecDepth 100000
namespace Go.Proofs.YtdboceaccgiklaaGreat

theorem a10 : (Rows.engineNilRow.inPlace == Tryz.pinned.checked.prog.inPlace 3) = true := by kernel_rfl

end Go.Proofs.YtdboceaccgiklaaGreat
