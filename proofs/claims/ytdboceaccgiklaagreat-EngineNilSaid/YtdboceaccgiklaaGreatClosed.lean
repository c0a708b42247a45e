/-
  Proves by the kernel's own run that the law's closed part answers true, over the calls laid; no conditions.
-/
import Derived.Test.YtdboceaccgiklaaGreatChunkData
import Derived.Test.YtdboceaccgiklaaGreatChunkMore
import Derived.Test.YtdboceaccgiklaaGreatBase
set_option linter.all false
set_option maxRecDepth 1000000
namespace Go.AM
open Go.Proofs

/-- the chunks of chunks -/
def kMemo2 : Known := (Known.add (Known.add kMemo 23 false (runAny [c23x20])) 9 false (runAny [c9x903, c9x1240, c9x1249, c9x1444]))

noncomputable def ans : Option Bool := match (evN Tryz.prog kMemo2 100000).call 5 [] St.empty with
  | some (.bool b, _) => some b
  | _ => none

theorem ans_true : ans = some true := by kernel_rfl

theorem runs_true : ∃ s', (evN Tryz.prog kMemo2 100000).call 5 [] St.empty = some (.bool true, s') := by
  have h := ans_true
  unfold ans at h
  split at h
  · rename_i b s heq
    injection h with h; subst h
    exact ⟨s, heq⟩
  · cases h

end Go.AM
