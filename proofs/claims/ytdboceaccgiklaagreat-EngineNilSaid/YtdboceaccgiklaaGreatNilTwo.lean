/-
  Proves that there is no engine of no drives, nor of no revival, whatever the config; no conditions.
-/
import Derived.Test.YtdboceaccgiklaaGreatNilOne
set_option linter.all false
set_option maxRecDepth 100000
namespace Go.AM
open Go.Proofs

/-- of a config and nothing: nothing -/
def kGone : KF := fun args s => match args with
  | [.agg [.int .i64 _, .int .i64 _, .int .i64 _, .int .i64 _, .int .u64 _, .int .i64 _], .ptr0] => some (.ptr0, s)
  | _ => none

theorem kGone_spec {args : List V} {s s' : St} {v : V} (h : kGone args s = some (v, s')) : ∃ K M L R S T, args = [vC K M L R S T, .ptr0] ∧ v = .ptr0 ∧ s' = s := by
  unfold kGone at h
  split at h
  · rename_i K M L R S T
    injection h with h; injection h with e1 e2
    exact ⟨K, M, L, R, S, T, rfl, e1.symm, e2.symm⟩
  · cases h

theorem KOK.gone {K : Known} (h : KOK Tryz.prog K) {e : Ev} (he : EvOK Tryz.prog e) {f : FuncId} (hg : ∀ K M L R S T, ∃ s', e.call f [vC K M L R S T, .ptr0] St.empty = some (.ptr0, s')) : KOK Tryz.prog (K.add f false kGone) :=
  h.alone he fun args s v s' hv => by
    obtain ⟨K, M, L, R, S, T, rfl, rfl, rfl⟩ := kGone_spec hv
    exact ⟨rfl, rfl, rfl, hg K M L R S T⟩

def kN1 : Known := kBase.add 52 false kGone
theorem kN1_ok : KOK Tryz.prog kN1 := kBase_ok.gone (evB_ok 1000) store_none
theorem evN1_ok (n : Nat) : EvOK Tryz.prog (evN Tryz.prog kN1 n) := am_sound mixed ng kN1_ok n

noncomputable def run23 (g g' : Gs) (K M L R S T : Int) : CallG := (gEv Tryz.prog kN1 [(51, []), (99, g), (162, g')] 1000).call 23 [] [vC K M L R S T, .ptr0] St.empty []

theorem new0 (K M L R S T : Int) : tellG (run23 [] [(8, true)] K M L R S T) = some (.ptr0, [(ltI S (.ofNat 0), true)], wantsG (run23 [] [(8, true)] K M L R S T)) := by kernel_rfl
theorem new1 (K M L R S T : Int) : tellG (run23 [(23, true)] [(8, false)] K M L R S T) = some (.ptr0, [(ltI T (.ofNat 1), true), (ltI S (.ofNat 0), false)], wantsG (run23 [(23, true)] [(8, false)] K M L R S T)) := by kernel_rfl
theorem new2 (K M L R S T : Int) : tellG (run23 [(23, false), (27, true)] [(8, false)] K M L R S T) = some (.ptr0, [(ltI (.ofNat 32) T, true), (ltI T (.ofNat 1), false), (ltI S (.ofNat 0), false)], wantsG (run23 [(23, false), (27, true)] [(8, false)] K M L R S T)) := by kernel_rfl
theorem new3 (K M L R S T : Int) : tellG (run23 [(23, false), (27, false)] [(8, false)] K M L R S T) = some (.ptr0, [(ltI (.ofNat 32) T, false), (ltI T (.ofNat 1), false), (ltI S (.ofNat 0), false)], wantsG (run23 [(23, false), (27, false)] [(8, false)] K M L R S T)) := by kernel_rfl

theorem new_none (K M L R S T : Int) : ∃ s', (evN Tryz.prog kN1 1000).call 23 [vC K M L R S T, .ptr0] St.empty = some (.ptr0, s') := by
  cases h0 : ltI S (.ofNat 0) with
  | true => exact callG_told (new0 K M L R S T) (all_cons h0 all_nil)
  | false =>
    cases h1 : ltI T (.ofNat 1) with
    | true => exact callG_told (new1 K M L R S T) (all_cons h1 (all_cons h0 all_nil))
    | false =>
      cases h2 : ltI (.ofNat 32) T with
      | true => exact callG_told (new2 K M L R S T) (all_cons h2 (all_cons h1 (all_cons h0 all_nil)))
      | false => exact callG_told (new3 K M L R S T) (all_cons h2 (all_cons h1 (all_cons h0 all_nil)))

noncomputable def run24 (g' : Gs) (K M L R S T : Int) : CallG := (gEv Tryz.prog kN1 [(51, []), (99, []), (162, g')] 1000).call 24 [] [vC K M L R S T, .ptr0] St.empty []

theorem from0 (K M L R S T : Int) : tellG (run24 [(8, true)] K M L R S T) = some (.ptr0, [(ltI S (.ofNat 0), true)], wantsG (run24 [(8, true)] K M L R S T)) := by kernel_rfl
theorem from1 (K M L R S T : Int) : tellG (run24 [(8, false)] K M L R S T) = some (.ptr0, [(ltI S (.ofNat 0), false)], wantsG (run24 [(8, false)] K M L R S T)) := by kernel_rfl

theorem from_none (K M L R S T : Int) : ∃ s', (evN Tryz.prog kN1 1000).call 24 [vC K M L R S T, .ptr0] St.empty = some (.ptr0, s') := by
  cases h0 : ltI S (.ofNat 0) with
  | true => exact callG_told (from0 K M L R S T) (all_cons h0 all_nil)
  | false => exact callG_told (from1 K M L R S T) (all_cons h0 all_nil)

end Go.AM
