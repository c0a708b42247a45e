/-
  Proves that the evaluator tells the truth of the program, the closed part being known; no conditions.
-/
import Derived.Test.YtdboceaccgiklaaGreatRun1
import Derived.Test.YtdboceaccgiklaaGreatRun2
import Derived.Test.YtdboceaccgiklaaGreatRun3
import Derived.Test.YtdboceaccgiklaaGreatRun4
import Derived.Test.YtdboceaccgiklaaGreatRun5
import Derived.Test.YtdboceaccgiklaaGreatRun6
import Derived.Test.YtdboceaccgiklaaGreatRun7
import Derived.Test.YtdboceaccgiklaaGreatRun8
import Derived.Test.YtdboceaccgiklaaGreatRun9
import Derived.Test.YtdboceaccgiklaaGreatRun10
import Derived.Test.YtdboceaccgiklaaGreatRun11
import Derived.Test.YtdboceaccgiklaaGreatChunkData
import Derived.Test.YtdboceaccgiklaaGreatMore1
import Derived.Test.YtdboceaccgiklaaGreatMore2
import Derived.Test.YtdboceaccgiklaaGreatMore3
import Derived.Test.YtdboceaccgiklaaGreatClosed
import Derived.Test.YtdboceaccgiklaaGreatNilThree
set_option linter.all false
set_option maxRecDepth 1000000
namespace Go.AM
open Go.Proofs

theorem all_100 : ∀ c ∈ [c100x22], c.ok (evN Tryz.prog kBase 100000) 100 = true := (List.forall_mem_cons.2 ⟨ok_100x22, (fun _ h => nomatch h)⟩)
def kM0 : Known := Known.add kBase 100 false (runAny [c100x22])
theorem kM0_ok : KOK Tryz.prog kM0 := KOK.chunks kBase_ok (evB_ok 100000) all_100
theorem all_171 : ∀ c ∈ [c171x53, c171x76, c171x99, c171x122, c171x145, c171x168, c171x191, c171x214, c171x237, c171x260, c171x283, c171x306, c171x329, c171x352, c171x375, c171x398, c171x421, c171x444, c171x467], c.ok (evN Tryz.prog kBase 100000) 171 = true := (List.forall_mem_cons.2 ⟨ok_171x53, (List.forall_mem_cons.2 ⟨ok_171x76, (List.forall_mem_cons.2 ⟨ok_171x99, (List.forall_mem_cons.2 ⟨ok_171x122, (List.forall_mem_cons.2 ⟨ok_171x145, (List.forall_mem_cons.2 ⟨ok_171x168, (List.forall_mem_cons.2 ⟨ok_171x191, (List.forall_mem_cons.2 ⟨ok_171x214, (List.forall_mem_cons.2 ⟨ok_171x237, (List.forall_mem_cons.2 ⟨ok_171x260, (List.forall_mem_cons.2 ⟨ok_171x283, (List.forall_mem_cons.2 ⟨ok_171x306, (List.forall_mem_cons.2 ⟨ok_171x329, (List.forall_mem_cons.2 ⟨ok_171x352, (List.forall_mem_cons.2 ⟨ok_171x375, (List.forall_mem_cons.2 ⟨ok_171x398, (List.forall_mem_cons.2 ⟨ok_171x421, (List.forall_mem_cons.2 ⟨ok_171x444, (List.forall_mem_cons.2 ⟨ok_171x467, (fun _ h => nomatch h)⟩)⟩)⟩)⟩)⟩)⟩)⟩)⟩)⟩)⟩)⟩)⟩)⟩)⟩)⟩)⟩)⟩)⟩)⟩)
def kM1 : Known := Known.add kM0 171 false (runAny [c171x53, c171x76, c171x99, c171x122, c171x145, c171x168, c171x191, c171x214, c171x237, c171x260, c171x283, c171x306, c171x329, c171x352, c171x375, c171x398, c171x421, c171x444, c171x467])
theorem kM1_ok : KOK Tryz.prog kM1 := KOK.chunks kM0_ok (evB_ok 100000) all_171
theorem all_103 : ∀ c ∈ [c103x507], c.ok (evN Tryz.prog kBase 100000) 103 = true := (List.forall_mem_cons.2 ⟨ok_103x507, (fun _ h => nomatch h)⟩)
def kM2 : Known := Known.add kM1 103 false (runAny [c103x507])
theorem kM2_ok : KOK Tryz.prog kM2 := KOK.chunks kM1_ok (evB_ok 100000) all_103
theorem all_106 : ∀ c ∈ [c106x686], c.ok (evN Tryz.prog kBase 100000) 106 = true := (List.forall_mem_cons.2 ⟨ok_106x686, (fun _ h => nomatch h)⟩)
def kM3 : Known := Known.add kM2 106 false (runAny [c106x686])
theorem kM3_ok : KOK Tryz.prog kM3 := KOK.chunks kM2_ok (evB_ok 100000) all_106
theorem all_228 : ∀ c ∈ [c228x938], c.ok (evN Tryz.prog kBase 100000) 228 = true := (List.forall_mem_cons.2 ⟨ok_228x938, (fun _ h => nomatch h)⟩)
def kM4 : Known := Known.add kM3 228 false (runAny [c228x938])
theorem kM4_ok : KOK Tryz.prog kM4 := KOK.chunks kM3_ok (evB_ok 100000) all_228
theorem all_122 : ∀ c ∈ [c122x1252], c.ok (evN Tryz.prog kBase 100000) 122 = true := (List.forall_mem_cons.2 ⟨ok_122x1252, (fun _ h => nomatch h)⟩)
def kM5 : Known := Known.add kM4 122 false (runAny [c122x1252])
theorem kM5_ok : KOK Tryz.prog kM5 := KOK.chunks kM4_ok (evB_ok 100000) all_122
theorem all_11 : ∀ c ∈ [c11x1507], c.ok (evN Tryz.prog kBase 100000) 11 = true := (List.forall_mem_cons.2 ⟨ok_11x1507, (fun _ h => nomatch h)⟩)
def kM6 : Known := Known.add kM5 11 false (runAny [c11x1507])
theorem kM6_ok : KOK Tryz.prog kM6 := KOK.chunks kM5_ok (evB_ok 100000) all_11
theorem kMemo_ok : KOK Tryz.prog kMemo := kM6_ok
theorem evM_ok (n : Nat) : EvOK Tryz.prog (evN Tryz.prog kMemo n) := am_sound mixed ng kMemo_ok n

end Go.AM

set_option maxRecDepth 1000000
namespace Go.AM
open Go.Proofs

theorem all2_23 : ∀ c ∈ [c23x20], c.ok (evN Tryz.prog kMemo 100000) 23 = true := (List.forall_mem_cons.2 ⟨ok_23x20, (fun _ h => nomatch h)⟩)
def kP0 : Known := Known.add kMemo 23 false (runAny [c23x20])
theorem kP0_ok : KOK Tryz.prog kP0 := KOK.chunks kMemo_ok (evM_ok 100000) all2_23
theorem all2_9 : ∀ c ∈ [c9x903, c9x1240, c9x1249, c9x1444], c.ok (evN Tryz.prog kMemo 100000) 9 = true := (List.forall_mem_cons.2 ⟨ok_9x903, (List.forall_mem_cons.2 ⟨ok_9x1240, (List.forall_mem_cons.2 ⟨ok_9x1249, (List.forall_mem_cons.2 ⟨ok_9x1444, (fun _ h => nomatch h)⟩)⟩)⟩)⟩)
def kP1 : Known := Known.add kP0 9 false (runAny [c9x903, c9x1240, c9x1249, c9x1444])
theorem kP1_ok : KOK Tryz.prog kP1 := KOK.chunks kP0_ok (evM_ok 100000) all2_9
theorem kMemo2_ok : KOK Tryz.prog kMemo2 := kP1_ok
theorem evM2_ok (n : Nat) : EvOK Tryz.prog (evN Tryz.prog kMemo2 n) := am_sound mixed ng kMemo2_ok n

theorem kL_ok : KOK Tryz.prog kL := ((kRuns_ok kBase_ok (evM2_ok 100000) runs_true).gone (evN1_ok 1000) new_none).gone (evN1_ok 1000) from_none
theorem evL_ok (n : Nat) : EvOK Tryz.prog (evN Tryz.prog kL n) := am_sound mixed ng kL_ok n

end Go.AM
