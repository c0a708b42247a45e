/-
  Proves that there is no store of no drives, whatever the config; no conditions.
-/
import Derived.Test.YtdboceaccgiklaaGreatGuess
import Derived.Test.YtdboceaccgiklaaGreatBase
import Derived.IntWalk
set_option linter.all false
set_option maxRecDepth 100000
namespace Go.AM
open Go.Proofs

/-- a config -/
def vC (K M L R S T : Int) : V := .agg [.int .i64 K, .int .i64 M, .int .i64 L, .int .i64 R, .int .u64 S, .int .i64 T]

noncomputable def run52 (g g' : Gs) (K M L R S T : Int) : CallG := (gEv Tryz.prog kBase [(100, g'), (164, g)] 1000).call 52 [] [vC K M L R S T, .ptr0] St.empty []

theorem path0 (K M L R S T : Int) : tellG (run52 [(6, true)] [] K M L R S T) = some (.ptr0, [(ltI K (.ofNat 1), true)], wantsG (run52 [(6, true)] [] K M L R S T)) := by kernel_rfl
theorem path1 (K M L R S T : Int) : tellG (run52 [(6, false), (10, true)] [] K M L R S T) = some (.ptr0, [(ltI M (.ofNat 1), true), (ltI K (.ofNat 1), false)], wantsG (run52 [(6, false), (10, true)] [] K M L R S T)) := by kernel_rfl
theorem path2 (K M L R S T : Int) : tellG (run52 [(6, false), (10, false), (15, true)] [] K M L R S T) = some (.ptr0, [(ltI (.ofNat 255) K, true), (ltI M (.ofNat 1), false), (ltI K (.ofNat 1), false)], wantsG (run52 [(6, false), (10, false), (15, true)] [] K M L R S T)) := by kernel_rfl
theorem path3 (K M L R S T : Int) : tellG (run52 [(6, false), (10, false), (15, false), (23, true)] [] K M L R S T) = some (.ptr0, [(ltI (wr .i64 (Int.sub (.ofNat 255) K)) M, true), (ltI (.ofNat 255) K, false), (ltI M (.ofNat 1), false), (ltI K (.ofNat 1), false)], wantsG (run52 [(6, false), (10, false), (15, false), (23, true)] [] K M L R S T)) := by kernel_rfl
theorem path4 (K M L R S T : Int) : tellG (run52 [(6, false), (10, false), (15, false), (23, false), (28, true)] [] K M L R S T) = some (.ptr0, [(ltI L (.ofNat 1), true), (ltI (wr .i64 (Int.sub (.ofNat 255) K)) M, false), (ltI (.ofNat 255) K, false), (ltI M (.ofNat 1), false), (ltI K (.ofNat 1), false)], wantsG (run52 [(6, false), (10, false), (15, false), (23, false), (28, true)] [] K M L R S T)) := by kernel_rfl
theorem path5 (K M L R S T : Int) : tellG (run52 [(6, false), (10, false), (15, false), (23, false), (28, false), (32, true)] [] K M L R S T) = some (.ptr0, [(ltI (.ofNat 64) L, true), (ltI L (.ofNat 1), false), (ltI (wr .i64 (Int.sub (.ofNat 255) K)) M, false), (ltI (.ofNat 255) K, false), (ltI M (.ofNat 1), false), (ltI K (.ofNat 1), false)], wantsG (run52 [(6, false), (10, false), (15, false), (23, false), (28, false), (32, true)] [] K M L R S T)) := by kernel_rfl
theorem path6 (K M L R S T : Int) : tellG (run52 [(6, false), (10, false), (15, false), (23, false), (28, false), (32, false), (37, true)] [] K M L R S T) = some (.ptr0, [(ltI R (.ofNat 2), true), (ltI (.ofNat 64) L, false), (ltI L (.ofNat 1), false), (ltI (wr .i64 (Int.sub (.ofNat 255) K)) M, false), (ltI (.ofNat 255) K, false), (ltI M (.ofNat 1), false), (ltI K (.ofNat 1), false)], wantsG (run52 [(6, false), (10, false), (15, false), (23, false), (28, false), (32, false), (37, true)] [] K M L R S T)) := by kernel_rfl
theorem path7 (K M L R S T : Int) : tellG (run52 [(6, false), (10, false), (15, false), (23, false), (28, false), (32, false), (37, false), (42, true)] [] K M L R S T) = some (.ptr0, [(ltI (.ofNat 400) R, true), (ltI R (.ofNat 2), false), (ltI (.ofNat 64) L, false), (ltI L (.ofNat 1), false), (ltI (wr .i64 (Int.sub (.ofNat 255) K)) M, false), (ltI (.ofNat 255) K, false), (ltI M (.ofNat 1), false), (ltI K (.ofNat 1), false)], wantsG (run52 [(6, false), (10, false), (15, false), (23, false), (28, false), (32, false), (37, false), (42, true)] [] K M L R S T)) := by kernel_rfl
theorem path8 (K M L R S T : Int) : tellG (run52 [(6, false), (10, false), (15, false), (23, false), (28, false), (32, false), (37, false), (42, false), (46, false)] [] K M L R S T) = some (.ptr0, [(!(ltI T (.ofNat 1)), false), (ltI (.ofNat 400) R, false), (ltI R (.ofNat 2), false), (ltI (.ofNat 64) L, false), (ltI L (.ofNat 1), false), (ltI (wr .i64 (Int.sub (.ofNat 255) K)) M, false), (ltI (.ofNat 255) K, false), (ltI M (.ofNat 1), false), (ltI K (.ofNat 1), false)], wantsG (run52 [(6, false), (10, false), (15, false), (23, false), (28, false), (32, false), (37, false), (42, false), (46, false)] [] K M L R S T)) := by kernel_rfl
theorem path9 (K M L R S T : Int) : tellG (run52 [(6, false), (10, false), (15, false), (23, false), (28, false), (32, false), (37, false), (42, false), (46, true), (50, false)] [] K M L R S T) = some (.ptr0, [(!(ltI (.ofNat 32) T), false), (!(ltI T (.ofNat 1)), true), (ltI (.ofNat 400) R, false), (ltI R (.ofNat 2), false), (ltI (.ofNat 64) L, false), (ltI L (.ofNat 1), false), (ltI (wr .i64 (Int.sub (.ofNat 255) K)) M, false), (ltI (.ofNat 255) K, false), (ltI M (.ofNat 1), false), (ltI K (.ofNat 1), false)], wantsG (run52 [(6, false), (10, false), (15, false), (23, false), (28, false), (32, false), (37, false), (42, false), (46, true), (50, false)] [] K M L R S T)) := by kernel_rfl
theorem path10 (K M L R S T : Int) : tellG (run52 [(6, false), (10, false), (15, false), (23, false), (28, false), (32, false), (37, false), (42, false), (46, true), (50, true), (55, false)] [] K M L R S T) = some (.ptr0, [(!(ltI (.ofNat 600) (wr .i64 (Int.add (wr .i64 (Int.add (.ofNat 2) (wr .i64 (Int.mul (.ofNat 2) L)))) R))), false), (!(ltI (.ofNat 32) T), true), (!(ltI T (.ofNat 1)), true), (ltI (.ofNat 400) R, false), (ltI R (.ofNat 2), false), (ltI (.ofNat 64) L, false), (ltI L (.ofNat 1), false), (ltI (wr .i64 (Int.sub (.ofNat 255) K)) M, false), (ltI (.ofNat 255) K, false), (ltI M (.ofNat 1), false), (ltI K (.ofNat 1), false)], wantsG (run52 [(6, false), (10, false), (15, false), (23, false), (28, false), (32, false), (37, false), (42, false), (46, true), (50, true), (55, false)] [] K M L R S T)) := by kernel_rfl
theorem path11 (K M L R S T : Int) : tellG (run52 [(6, false), (10, false), (15, false), (23, false), (28, false), (32, false), (37, false), (42, false), (46, true), (50, true), (55, true)] [(16, true)] K M L R S T) = some (.ptr0, [(!(eqI (.ofNat 0) (wr .i64 (Int.add K M))), true), (!(ltI (.ofNat 600) (wr .i64 (Int.add (wr .i64 (Int.add (.ofNat 2) (wr .i64 (Int.mul (.ofNat 2) L)))) R))), true), (!(ltI (.ofNat 32) T), true), (!(ltI T (.ofNat 1)), true), (ltI (.ofNat 400) R, false), (ltI R (.ofNat 2), false), (ltI (.ofNat 64) L, false), (ltI L (.ofNat 1), false), (ltI (wr .i64 (Int.sub (.ofNat 255) K)) M, false), (ltI (.ofNat 255) K, false), (ltI M (.ofNat 1), false), (ltI K (.ofNat 1), false)], wantsG (run52 [(6, false), (10, false), (15, false), (23, false), (28, false), (32, false), (37, false), (42, false), (46, true), (50, true), (55, true)] [(16, true)] K M L R S T)) := by kernel_rfl

end Go.AM

namespace Go.AM
open Go.Proofs

theorem sum_ne {K M : Int} (h1 : ltI K (.ofNat 1) = false) (h2 : ltI M (.ofNat 1) = false) (h3 : ltI (.ofNat 255) K = false) (h4 : ltI (wr .i64 (Int.sub (.ofNat 255) K)) M = false) : (!(eqI (.ofNat 0) (wr .i64 (Int.add K M)))) = true := by
  rw [ltI_eq, decide_eq_false_iff_not] at h1 h2 h3 h4
  have h1 : ¬ K < 1 := h1
  have h2 : ¬ M < 1 := h2
  have h3 : ¬ (255 : Int) < K := h3
  rw [wr_eq] at h4
  have e : IntKind.i64.wrap (Int.sub (.ofNat 255) K) = 255 - K := Go.IntWalk.i64_in (255 - K) (by omega)
  rw [e] at h4
  rw [wr_eq, eqI_eq]
  have e : IntKind.i64.wrap (Int.add K M) = K + M := Go.IntWalk.i64_in (K + M) (by omega)
  rw [e]
  simp
  omega

theorem store_none (K M L R S T : Int) : ∃ s', (evN Tryz.prog kBase 1000).call 52 [vC K M L R S T, .ptr0] St.empty = some (.ptr0, s') := by
  cases h0 : ltI K (.ofNat 1) with
  | true => exact callG_told (path0 K M L R S T) (all_cons h0 all_nil)
  | false =>
    cases h1 : ltI M (.ofNat 1) with
    | true => exact callG_told (path1 K M L R S T) (all_cons h1 (all_cons h0 all_nil))
    | false =>
      cases h2 : ltI (.ofNat 255) K with
      | true => exact callG_told (path2 K M L R S T) (all_cons h2 (all_cons h1 (all_cons h0 all_nil)))
      | false =>
        cases h3 : ltI (wr .i64 (Int.sub (.ofNat 255) K)) M with
        | true => exact callG_told (path3 K M L R S T) (all_cons h3 (all_cons h2 (all_cons h1 (all_cons h0 all_nil))))
        | false =>
          cases h4 : ltI L (.ofNat 1) with
          | true => exact callG_told (path4 K M L R S T) (all_cons h4 (all_cons h3 (all_cons h2 (all_cons h1 (all_cons h0 all_nil)))))
          | false =>
            cases h5 : ltI (.ofNat 64) L with
            | true => exact callG_told (path5 K M L R S T) (all_cons h5 (all_cons h4 (all_cons h3 (all_cons h2 (all_cons h1 (all_cons h0 all_nil))))))
            | false =>
              cases h6 : ltI R (.ofNat 2) with
              | true => exact callG_told (path6 K M L R S T) (all_cons h6 (all_cons h5 (all_cons h4 (all_cons h3 (all_cons h2 (all_cons h1 (all_cons h0 all_nil)))))))
              | false =>
                cases h7 : ltI (.ofNat 400) R with
                | true => exact callG_told (path7 K M L R S T) (all_cons h7 (all_cons h6 (all_cons h5 (all_cons h4 (all_cons h3 (all_cons h2 (all_cons h1 (all_cons h0 all_nil))))))))
                | false =>
                  cases h8 : !(ltI T (.ofNat 1)) with
                  | false => exact callG_told (path8 K M L R S T) (all_cons h8 (all_cons h7 (all_cons h6 (all_cons h5 (all_cons h4 (all_cons h3 (all_cons h2 (all_cons h1 (all_cons h0 all_nil)))))))))
                  | true =>
                    cases h9 : !(ltI (.ofNat 32) T) with
                    | false => exact callG_told (path9 K M L R S T) (all_cons h9 (all_cons h8 (all_cons h7 (all_cons h6 (all_cons h5 (all_cons h4 (all_cons h3 (all_cons h2 (all_cons h1 (all_cons h0 all_nil))))))))))
                    | true =>
                      cases h10 : !(ltI (.ofNat 600) (wr .i64 (Int.add (wr .i64 (Int.add (.ofNat 2) (wr .i64 (Int.mul (.ofNat 2) L)))) R))) with
                      | false => exact callG_told (path10 K M L R S T) (all_cons h10 (all_cons h9 (all_cons h8 (all_cons h7 (all_cons h6 (all_cons h5 (all_cons h4 (all_cons h3 (all_cons h2 (all_cons h1 (all_cons h0 all_nil)))))))))))
                      | true => exact callG_told (path11 K M L R S T) (all_cons (sum_ne h0 h1 h2 h3) (all_cons h10 (all_cons h9 (all_cons h8 (all_cons h7 (all_cons h6 (all_cons h5 (all_cons h4 (all_cons h3 (all_cons h2 (all_cons h1 (all_cons h0 all_nil))))))))))))

end Go.AM
