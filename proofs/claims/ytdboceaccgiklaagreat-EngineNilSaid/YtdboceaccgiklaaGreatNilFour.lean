/-
  Proves that in the model the law answers true and leaves memory as it was, for every config and every act, where the evaluator tells the truth.
-/
import Derived.Test.YtdboceaccgiklaaGreatNilThree
import Derived.Test.YtdboceaccgiklaaGreatProg
import Derived.ProofKit
set_option linter.all false
set_option maxRecDepth 100000
namespace Go.AM
open Go.Proofs Go.RowKit

theorem fen_wide : fen none = Fence.wide := rfl

/-- cells by their types -/
theorem cells_of {P : Program} {w : World} {r : Reach} {base : Nat} {t : TypeId} {fs : Array Field} {ts : List TypeId} {v : Value} (hs : P.underlying t = some (.struct fs)) (hc : P.cellTypes P.depth t = some ts) (hn : P.cellsOf t = ts.length) (h : Value.okWide P w r base t v) :
    ∃ l : List Value, v = .agg ⟨l⟩ ∧ l.length = ts.length ∧ ∀ (i : Nat) (u : TypeId) (x : Value), ts[i]? = some u → l[i]? = some x → Cell.okWide P w r base u x := by
  simp only [Value.okWide, hs] at h
  obtain ⟨cs, rfl, hsz, hrow⟩ := h
  obtain ⟨ts', h1, _, h3⟩ := hrow
  rw [hc] at h1; injection h1 with h1; subst h1
  refine ⟨cs.toList, by cases cs; rfl, by rw [Array.length_toList, hsz, hn], fun i u x hu hx => ?_⟩
  obtain ⟨u', e1, e2⟩ := h3 i x (by rw [← Array.getElem?_toList]; exact hx)
  have hi : i < ts.length := (List.getElem?_eq_some_iff.1 hu).1
  rw [Nat.mod_eq_of_lt hi, hu] at e1
  injection e1 with e1; subst e1
  exact e2

theorem cell_int {P : Program} {w : World} {r : Reach} {base : Nat} {t : TypeId} {k : IntKind} {v : Value} (ht : P.underlying t = some (.int k)) (h : Cell.okWide P w r base t v) : ∃ n, v = .int k n := by
  simp only [Cell.okWide, ht] at h
  cases v <;> simp_all [Cell.ok]

theorem cell_str {P : Program} {w : World} {r : Reach} {base : Nat} {t : TypeId} {v : Value} (ht : P.underlying t = some .string) (h : Cell.okWide P w r base t v) : ∃ s, v = .string s := by
  simp only [Cell.okWide, ht] at h
  cases v <;> simp_all [Cell.ok]

theorem cell_sl {P : Program} {w : World} {r : Reach} {base : Nat} {t e : TypeId} {v : Value} (ht : P.underlying t = some (.slice e)) (h : Cell.okWide P w r base t v) : v = .slice none 0 0 ∨ ∃ b off len cap, v = .slice (some ⟨b, off, none⟩) len cap := by
  simp only [Cell.okWide, ht] at h
  cases v with
  | slice a len cap =>
    cases a with
    | none =>
      left
      cases len <;> cases cap <;> simp_all [Cell.ok]
    | some a =>
      right
      obtain ⟨b, off, spot⟩ := a
      simp only [Cell.ok, ht, World.has] at h
      obtain ⟨_, _, _, h, _⟩ := h
      subst h
      exact ⟨b, off, len, cap, rfl⟩
  | _ => simp_all [Cell.ok]

theorem list6 {α : Type} {l : List α} (h : l.length = 6) : ∃ a b c d e f, l = [a, b, c, d, e, f] := by
  match l, h with
  | [a, b, c, d, e, f], _ => exact ⟨a, b, c, d, e, f, rfl⟩

theorem list9 {α : Type} {l : List α} (h : l.length = 9) : ∃ a b c d e f g i j, l = [a, b, c, d, e, f, g, i, j] := by
  match l, h with
  | [a, b, c, d, e, f, g, i, j], _ => exact ⟨a, b, c, d, e, f, g, i, j, rfl⟩

theorem types24 : Tryz.prog.cellTypes Tryz.prog.depth 24 = some [3, 3, 3, 3, 22, 3] := by kernel_rfl
theorem cells24 : Tryz.prog.cellsOf 24 = 6 := by kernel_rfl
theorem types29 : Tryz.prog.cellTypes Tryz.prog.depth 29 = some [3, 3, 3, 3, 9, 25, 9, 9, 3] := by kernel_rfl
theorem cells29 : Tryz.prog.cellsOf 29 = 9 := by kernel_rfl

theorem cfg_form {w : World} {r : Reach} {base : Nat} {v : Value} (h : Value.okWide Tryz.prog w r base 24 v) : ∃ K M L R S T, v = .agg ⟨[.int .i64 K, .int .i64 M, .int .i64 L, .int .i64 R, .int .u64 S, .int .i64 T]⟩ := by
  obtain ⟨l, rfl, hl, hc⟩ := cells_of Tryz.underlying24 types24 cells24 h
  obtain ⟨a, b, c, d, e, f, rfl⟩ := list6 hl
  obtain ⟨_, rfl⟩ := cell_int Tryz.underlying3 (hc 0 3 a rfl rfl)
  obtain ⟨_, rfl⟩ := cell_int Tryz.underlying3 (hc 1 3 b rfl rfl)
  obtain ⟨_, rfl⟩ := cell_int Tryz.underlying3 (hc 2 3 c rfl rfl)
  obtain ⟨_, rfl⟩ := cell_int Tryz.underlying3 (hc 3 3 d rfl rfl)
  obtain ⟨_, rfl⟩ := cell_int Tryz.underlying22 (hc 4 22 e rfl rfl)
  obtain ⟨_, rfl⟩ := cell_int Tryz.underlying3 (hc 5 3 f rfl rfl)
  exact ⟨_, _, _, _, _, _, rfl⟩

theorem act_form {w : World} {r : Reach} {base : Nat} {v : Value} (h : Value.okWide Tryz.prog w r base 29 v) : ∃ a b c d s sl s1 s2 e, v = .agg ⟨[.int .i64 a, .int .i64 b, .int .i64 c, .int .i64 d, .string s, sl, .string s1, .string s2, .int .i64 e]⟩ ∧
    (sl = .slice none 0 0 ∨ ∃ b off len cap, sl = .slice (some ⟨b, off, none⟩) len cap) := by
  obtain ⟨l, rfl, hl, hc⟩ := cells_of Tryz.underlying29 types29 cells29 h
  obtain ⟨a, b, c, d, e, f, g, i, j, rfl⟩ := list9 hl
  obtain ⟨_, rfl⟩ := cell_int Tryz.underlying3 (hc 0 3 a rfl rfl)
  obtain ⟨_, rfl⟩ := cell_int Tryz.underlying3 (hc 1 3 b rfl rfl)
  obtain ⟨_, rfl⟩ := cell_int Tryz.underlying3 (hc 2 3 c rfl rfl)
  obtain ⟨_, rfl⟩ := cell_int Tryz.underlying3 (hc 3 3 d rfl rfl)
  obtain ⟨_, rfl⟩ := cell_str Tryz.underlying9 (hc 4 9 e rfl rfl)
  have hsl := cell_sl Tryz.underlying25 (hc 5 25 f rfl rfl)
  obtain ⟨_, rfl⟩ := cell_str Tryz.underlying9 (hc 6 9 g rfl rfl)
  obtain ⟨_, rfl⟩ := cell_str Tryz.underlying9 (hc 7 9 i rfl rfl)
  obtain ⟨_, rfl⟩ := cell_int Tryz.underlying3 (hc 8 3 j rfl rfl)
  exact ⟨_, _, _, _, _, _, _, _, _, rfl, hsl⟩

/-- out of a run of the law -/
theorem calls_of {e : Ev} (he : EvOK Tryz.prog e) {args : List V} {s : St} (hr : ∃ s', e.call 3 args s = some (.bool true, s')) (hempty : s.heap = .e) {φ : Map} (hφ : ∀ i, s.next ≤ i → φ i = none) {w : World} {args' : List Value} (ha : VRs φ args args') :
    Calls Tryz.prog 3 ⟨args'⟩ w fun en w' => en = .returned (.bool true) ∧ Below w.heap.size w w' := by
  obtain ⟨s', hr⟩ := hr
  obtain ⟨h, n⟩ := s
  simp only at hempty hφ
  subst hempty
  obtain ⟨_, hs⟩ := he.call _ _ _ _ _ hr
  obtain ⟨_, hc⟩ := hs φ w args' ⟨fun i b N o _ hi => (by cases hi), fun i j b N M _ _ hi => absurd rfl hi⟩ (fun i _ => rfl) ha (fun i hi _ => hφ i hi)
  rw [fen_wide] at hc
  refine (callsIn_wide.1 hc).mono fun en w' hret => ?_
  obtain ⟨φ', v', rfl, hv, hf⟩ := hret
  cases hv
  exact ⟨rfl, hf.calm.os, hf.calm.tape, hf.calm.output, hf.goes.size, fun b hb => hf.goes.keeps b hb (fun i N _ => rfl)⟩

theorem law_calls (he : EvOK Tryz.prog (evN Tryz.prog kL 1000)) {w w0 : World} {r : Reach} {base : Nat} {v0 v1 : Value} (h0 : Value.okWide Tryz.prog w0 r base 24 v0) (h1 : Value.okWide Tryz.prog w0 r base 29 v1) :
    Calls Tryz.prog 3 #[v0, v1] w fun en w' => en = .returned (.bool true) ∧ Below w.heap.size w w' := by
  obtain ⟨K, M, L, R, S, T, rfl⟩ := cfg_form h0
  obtain ⟨a, b, c, d, s, sl, s1, s2, e, rfl, hsl⟩ := act_form h1
  have ic : ∀ φ : Map, VR φ (vC K M L R S T) (.agg ⟨[.int .i64 K, .int .i64 M, .int .i64 L, .int .i64 R, .int .u64 S, .int .i64 T]⟩) := fun φ =>
    .agg (.cons (.int ..) (.cons (.int ..) (.cons (.int ..) (.cons (.int ..) (.cons (.int ..) (.cons (.int ..) .nil))))))
  have iy : ∀ (φ : Map) (x : V), VR φ x sl → VR φ (vY a b c d s x s1 s2 e) (.agg ⟨[.int .i64 a, .int .i64 b, .int .i64 c, .int .i64 d, .string s, sl, .string s1, .string s2, .int .i64 e]⟩) := fun φ x hx =>
    .agg (.cons (.int ..) (.cons (.int ..) (.cons (.int ..) (.cons (.int ..) (.cons (.str _) (.cons hx (.cons (.str _) (.cons (.str _) (.cons (.int ..) .nil)))))))))
  rcases hsl with rfl | ⟨bl, off, len, cap, rfl⟩
  · exact calls_of he (law_nil K M L R S T a b c d s s1 s2 e) rfl (φ := fun _ => none) (fun _ _ => rfl) (.cons (ic _) (.cons (iy _ _ .sl0) .nil))
  · refine calls_of he (law_some K M L R S T a b c d s s1 s2 off len cap e) rfl (φ := fun i => if i = 0 then some (bl, 0) else none) (fun i hi => ?_) (.cons (ic _) (.cons (iy _ _ (.slx off len cap (i := 0) (N := 0) (by simp))) .nil))
    have hi : 1 ≤ i := hi
    have : ¬ i = 0 := by omega
    simp [this]

end Go.AM
