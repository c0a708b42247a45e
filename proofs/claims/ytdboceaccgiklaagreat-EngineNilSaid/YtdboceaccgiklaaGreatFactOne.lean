/-
  Proves closed facts of the row by the kernel's own run; no conditions.
-/
import Derived.Test.YtdboceaccgiklaaGreatRows
import Derived.ProofKit
set_option linter.all false
set_option maxRecDepth 100000
namespace Go.Proofs.YtdboceaccgiklaaGreat

theorem a1 : Rows.engineNilRow.wf (OpenSpec.ofChange Rows.engineNilSpec) = true := by kernel_rfl
theorem a2 : laidOutB Tryz.pinned.checked.prog = true := by kernel_rfl
theorem a3 : mapsRowed Tryz.pinned.checked.prog = true := by kernel_rfl
theorem a4 : Tryz.f3.params.all (Tryz.pinned.checked.prog.readableRec ·) = true := by kernel_rfl
theorem a5 : namedTie Tryz.pinned.checked.prog Rows.engineNilRow.named Rows.engineNilSpec.vars = true := by kernel_rfl
theorem a6 : (Rows.engineNilRow.stops == []) = true := by kernel_rfl
theorem a7 : (Tryz.pinned.checked.prog.stops == []) = true := by kernel_rfl
theorem a8 : (Rows.engineNilRow.knobs == []) = true := by kernel_rfl
theorem a9 : (Tryz.pinned.checked.prog.stopKnobs == []) = true := by kernel_rfl

end Go.Proofs.YtdboceaccgiklaaGreat
