/-
  Proves a closed fact of the row, which variables are named, by the kernel's own run; no conditions.
-/
import Derived.Test.YtdboceaccgiklaaGreatRows
import Derived.ProofKit
set_option linter.all false
set_option maxRecDepth 100000
namespace Go.Proofs.YtdboceaccgiklaaGreat

theorem a13 : (Rows.engineNilRow.named == Tryz.pinned.checked.prog.varsNamed 3) = true := by kernel_rfl

end Go.Proofs.YtdboceaccgiklaaGreat
