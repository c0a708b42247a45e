/-
  Proves a closed fact of the row, that not all is followed, by the kernel's own run; no conditions.
-/
import Derived.Test.YtdboceaccgiklaaGreatRows
import Derived.ProofKit
set_option linter.all false
set_option maxRecDepth 100000
namespace Go.Proofs.YtdboceaccgiklaaGreat

theorem a11 : (Rows.engineNilRow.unfollowed == Tryz.pinned.checked.prog.unfollowed 3) = true := by kernel_rfl

end Go.Proofs.YtdboceaccgiklaaGreat
