/-
  Proves closed facts of the row by the kernel's own run; no conditions.
-/
import Derived.Test.YtdboceaccgiklaaGreatRows
import Derived.ProofKit
set_option linter.all false
set_option maxRecDepth 100000
namespace Go.Proofs.YtdboceaccgiklaaGreat

theorem a23b : Tryz.pinned.checked.prog.stopsHeard = true := by kernel_rfl
theorem a24 : Tryz.pinned.checked.prog.mayEnter = true := by kernel_rfl
theorem a24b : (Rows.engineNilRow.lifted == Tryz.pinned.checked.prog.liftsFinal) = true := by kernel_rfl
theorem a24c : (Tryz.pinned.checked.prog.make == some Rows.engineNilRow.make) = true := by kernel_rfl

end Go.Proofs.YtdboceaccgiklaaGreat
