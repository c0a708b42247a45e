/-
  Proves that the evaluator answers true of the law, for every config and every act; no conditions.
-/
import Derived.Test.YtdboceaccgiklaaGreatNilTwo
import Derived.Test.YtdboceaccgiklaaGreatBase
set_option linter.all false
set_option maxRecDepth 100000
namespace Go.AM
open Go.Proofs

/-- an act -/
def vY (a b c d : Int) (s : ByteArray) (sl : V) (s1 s2 : ByteArray) (e : Int) : V := .agg [.int .i64 a, .int .i64 b, .int .i64 c, .int .i64 d, .str s, sl, .str s1, .str s2, .int .i64 e]

def kL : Known := ((kBase.add 5 false kRuns).add 23 false kGone).add 24 false kGone

noncomputable def run3 (g : Bool) (C Y : V) (s : St) : CallG := (gEv Tryz.prog kL [] 1000).call 3 [(24, g)] [C, Y] s []

/-- is what is asked for too much? -/
noncomputable def much (C Y : V) (s : St) : Bool := match run3 true C Y s with
  | some (_, _, ob) => match bools ob with
    | [(b, _)] => b
    | _ => true
  | none => true

theorem law_nil_much (K M L R S T a b c d : Int) (s s1 s2 : ByteArray) (e : Int) : tellG (run3 true (vC K M L R S T) (vY a b c d s .sl0 s1 s2 e) St.empty) = some (.bool true, [(much (vC K M L R S T) (vY a b c d s .sl0 s1 s2 e) St.empty, true)], wantsG (run3 true (vC K M L R S T) (vY a b c d s .sl0 s1 s2 e) St.empty)) := by kernel_rfl

theorem law_nil_few (K M L R S T a b c d : Int) (s s1 s2 : ByteArray) (e : Int) : tellG (run3 false (vC K M L R S T) (vY a b c d s .sl0 s1 s2 e) St.empty) = some (.bool true, [(much (vC K M L R S T) (vY a b c d s .sl0 s1 s2 e) St.empty, false)], wantsG (run3 false (vC K M L R S T) (vY a b c d s .sl0 s1 s2 e) St.empty)) := by kernel_rfl

theorem law_some_much (K M L R S T a b c d : Int) (s s1 s2 : ByteArray) (off len cap : Nat) (e : Int) : tellG (run3 true (vC K M L R S T) (vY a b c d s (.sl 0 off len cap 0) s1 s2 e) ⟨.e, 1⟩) = some (.bool true, [(much (vC K M L R S T) (vY a b c d s (.sl 0 off len cap 0) s1 s2 e) ⟨.e, 1⟩, true)], wantsG (run3 true (vC K M L R S T) (vY a b c d s (.sl 0 off len cap 0) s1 s2 e) ⟨.e, 1⟩)) := by kernel_rfl

theorem law_some_few (K M L R S T a b c d : Int) (s s1 s2 : ByteArray) (off len cap : Nat) (e : Int) : tellG (run3 false (vC K M L R S T) (vY a b c d s (.sl 0 off len cap 0) s1 s2 e) ⟨.e, 1⟩) = some (.bool true, [(much (vC K M L R S T) (vY a b c d s (.sl 0 off len cap 0) s1 s2 e) ⟨.e, 1⟩, false)], wantsG (run3 false (vC K M L R S T) (vY a b c d s (.sl 0 off len cap 0) s1 s2 e) ⟨.e, 1⟩)) := by kernel_rfl

/-- the law, of an act without a value -/
theorem law_nil (K M L R S T a b c d : Int) (s s1 s2 : ByteArray) (e : Int) : ∃ s', (evN Tryz.prog kL 1000).call 3 [vC K M L R S T, vY a b c d s .sl0 s1 s2 e] St.empty = some (.bool true, s') := by
  cases h : much (vC K M L R S T) (vY a b c d s .sl0 s1 s2 e) St.empty with
  | true => exact callG_told (law_nil_much K M L R S T a b c d s s1 s2 e) (all_cons h all_nil)
  | false => exact callG_told (law_nil_few K M L R S T a b c d s s1 s2 e) (all_cons h all_nil)

theorem law_some (K M L R S T a b c d : Int) (s s1 s2 : ByteArray) (off len cap : Nat) (e : Int) : ∃ s', (evN Tryz.prog kL 1000).call 3 [vC K M L R S T, vY a b c d s (.sl 0 off len cap 0) s1 s2 e] ⟨.e, 1⟩ = some (.bool true, s') := by
  cases h : much (vC K M L R S T) (vY a b c d s (.sl 0 off len cap 0) s1 s2 e) ⟨.e, 1⟩ with
  | true => exact callG_told (law_some_much K M L R S T a b c d s s1 s2 off len cap e) (all_cons h all_nil)
  | false => exact callG_told (law_some_few K M L R S T a b c d s s1 s2 off len cap e) (all_cons h all_nil)

end Go.AM
