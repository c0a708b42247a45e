/-
  Proves that the checksum's step and its eating of bytes are what they are for every input, and that a closed run may be taken as known; no conditions.
-/
import Derived.Test.YtdboceaccgiklaaGreatKnown
import Derived.Test.YtdboceaccgiklaaGreatProg
import Derived.KernelRfl
set_option linter.all false
namespace Go.AM
open Go.Proofs

theorem mixed : Tryz.prog.follows .mixedOrders = true := by kernel_rfl
theorem ng_all : (Tryz.prog.funcs.toList.all fun fn => !(fn.name == "runtime.NumGoroutine")) = true := by kernel_rfl

theorem ng (f : FuncId) (fn : Func) (h : Tryz.prog.funcs[f]? = some fn) : (fn.name == "runtime.NumGoroutine") = false := by
  have h1 := ng_all
  rw [List.all_eq_true] at h1
  have hm : fn ∈ Tryz.prog.funcs.toList := by
    rw [← Array.getElem?_toList] at h
    exact List.mem_of_getElem? h
  have := h1 fn hm
  simpa using this

def nums : Nums := ⟨437, 439, 440, 442, 423, 267, 433, 283, 438, 443⟩

theorem k0_ok : KOK Tryz.prog nums.known := by
  unfold Nums.known nums
  refine KOK.ext ?_ (f := 443) ⟨_, Tryz.func443, by kernel_rfl, by kernel_rfl, by kernel_rfl, by kernel_rfl⟩ (add_ok .i32)
  refine KOK.ext ?_ (f := 438) ⟨_, Tryz.func438, by kernel_rfl, by kernel_rfl, by kernel_rfl, by kernel_rfl⟩ (cas_ok .i32)
  refine KOK.ext ?_ (f := 283) ⟨_, Tryz.func283, by kernel_rfl, by kernel_rfl, by kernel_rfl, by kernel_rfl⟩ store_ok
  refine KOK.ext ?_ (f := 433) ⟨_, Tryz.func433, by kernel_rfl, by kernel_rfl, by kernel_rfl, by kernel_rfl⟩ store_ok
  refine KOK.ext ?_ (f := 267) ⟨_, Tryz.func267, by kernel_rfl, by kernel_rfl, by kernel_rfl, by kernel_rfl⟩ (load_ok .u64)
  refine KOK.ext ?_ (f := 423) ⟨_, Tryz.func423, by kernel_rfl, by kernel_rfl, by kernel_rfl, by kernel_rfl⟩ (load_ok .u32)
  refine KOK.ext ?_ (f := 442) ⟨_, Tryz.func442, by kernel_rfl, by kernel_rfl, by kernel_rfl, by kernel_rfl⟩ (mark_ok .releaseMerge)
  refine KOK.ext ?_ (f := 440) ⟨_, Tryz.func440, by kernel_rfl, by kernel_rfl, by kernel_rfl, by kernel_rfl⟩ (mark_ok .acquire)
  refine KOK.ext ?_ (f := 439) ⟨_, Tryz.func439, by kernel_rfl, by kernel_rfl, by kernel_rfl, by kernel_rfl⟩ (none_ok .enable)
  refine KOK.ext ?_ (f := 437) ⟨_, Tryz.func437, by kernel_rfl, by kernel_rfl, by kernel_rfl, by kernel_rfl⟩ (none_ok .disable)
  exact KOK.none

theorem ev0_ok (n : Nat) : EvOK Tryz.prog (evN Tryz.prog nums.known n) := am_sound mixed ng k0_ok n

/-! ### the checksum -/

def stepE (x : Int) : Int :=
  bitN Nat.xor xorB .u32 (Int.fdiv x (.ofNat (Nat.pow 2 (Nat.min 1 32)))) (bitN Nat.land andB .u32 (.ofNat 2197175160) (wr .u32 (Int.sub (.ofNat 0) (bitN Nat.land andB .u32 x (.ofNat 1)))))

theorem step_ev (x : Int) (s : St) : (evN Tryz.prog nums.known 20).call 427 [.int .u32 x] s = some (.int .u32 (stepE x), s) := by kernel_rfl

end Go.AM

set_option maxRecDepth 200000
namespace Go.AM
open Go.Proofs

theorem ble_true {a b : Nat} (h : a ≤ b) : Nat.ble a b = true := Nat.ble_eq_true_of_le h

theorem crcStep_eq (c : Nat) : crcStep c = if c % 2 = 1 then (c / 2) ^^^ 2197175160 else c / 2 := by
  show (Bool.casesOn (Nat.beq (c % 2) 1) (c / 2) ((c / 2) ^^^ 2197175160) : Nat) = _
  by_cases h : c % 2 = 1
  · rw [beq_true h, if_pos h]
  · rw [beq_false h, if_neg h]

theorem crcStep_le {c : Nat} (h : c ≤ 4294967295) : crcStep c ≤ 4294967295 := by
  rw [crcStep_eq]
  split
  · have : (c / 2) ^^^ 2197175160 < 2 ^ 32 := Nat.xor_lt_two_pow (by omega) (by omega)
    omega
  · omega

theorem fdiv_two (c : Nat) : Int.fdiv (.ofNat c) (.ofNat (Nat.pow 2 (Nat.min 1 32))) = .ofNat (c / 2) := by
  cases c with
  | zero => rfl
  | succ c => rfl

theorem stepE_eq {c : Nat} (h : c ≤ 4294967295) : stepE (.ofNat c) = .ofNat (crcStep c) := by
  have hl : limK .u32 = 4294967295 := rfl
  have h1 : bitN Nat.land andB .u32 (.ofNat c) (.ofNat 1) = .ofNat (c % 2) := by
    show (Bool.casesOn (Nat.ble c (limK .u32) && Nat.ble 1 (limK .u32)) _ (.ofNat (Nat.land c 1)) : Int) = _
    rw [hl, ble_true h, ble_true (by omega)]
    show Int.ofNat (c &&& 1) = _
    rw [Nat.and_one_is_mod]
  unfold stepE
  rw [h1, fdiv_two]
  rw [crcStep_eq]
  rcases Nat.mod_two_eq_zero_or_one c with hc | hc
  · rw [hc, if_neg (by omega)]
    have e : bitN Nat.land andB .u32 (.ofNat 2197175160) (wr .u32 (Int.sub (.ofNat 0) (.ofNat 0))) = .ofNat 0 := by decide
    rw [e]
    show (Bool.casesOn (Nat.ble (c / 2) (limK .u32) && Nat.ble 0 (limK .u32)) _ (.ofNat (Nat.xor (c / 2) 0)) : Int) = _
    rw [hl, ble_true (show c / 2 ≤ 4294967295 by omega), ble_true (by omega)]
    show Int.ofNat ((c / 2) ^^^ 0) = _
    rw [Nat.xor_zero]
  · rw [hc, if_pos rfl]
    have e : bitN Nat.land andB .u32 (.ofNat 2197175160) (wr .u32 (Int.sub (.ofNat 0) (.ofNat 1))) = .ofNat 2197175160 := by decide
    rw [e]
    show (Bool.casesOn (Nat.ble (c / 2) (limK .u32) && Nat.ble 2197175160 (limK .u32)) _ (.ofNat (Nat.xor (c / 2) 2197175160)) : Int) = _
    rw [hl, ble_true (show c / 2 ≤ 4294967295 by omega), ble_true (by omega)]
    show Int.ofNat ((c / 2) ^^^ 2197175160) = Int.ofNat ((c / 2) ^^^ 2197175160)
    exact Eq.refl _

def kStepE : KF := fun args s => match args with
  | [.int .u32 x] => some (.int .u32 (stepE x), s)
  | _ => none

theorem kStepE_ev (args : List V) (s : St) (v : V) (s' : St) (h : kStepE args s = some (v, s')) : (evN Tryz.prog nums.known 20).call 427 args s = some (v, s') := by
  unfold kStepE at h
  split at h
  · rename_i x
    exact (step_ev x s).trans h
  · cases h

theorem k1e_ok : KOK Tryz.prog (nums.known.add 427 false kStepE) := KOK.of_ev (e := evN Tryz.prog nums.known 20) k0_ok (ev0_ok 20) kStepE_ev

theorem ev1_ok (n : Nat) : EvOK Tryz.prog (evN Tryz.prog (nums.known.add 427 false kStepE) n) := am_sound mixed ng k1e_ok n

def eatE (x y : Int) : Int := stepE (stepE (stepE (stepE (stepE (stepE (stepE (stepE (bitN Nat.xor xorB .u32 x (wr .u32 y)))))))))

theorem eat_ev (x y : Int) (s : St) : (evN Tryz.prog (nums.known.add 427 false kStepE) 40).call 416 [.int .u32 x, .int .u8 y] s = some (.int .u32 (eatE x y), s) := by kernel_rfl

theorem eatE_eq {c b : Nat} (h : c ≤ 4294967295) (hb : b ≤ 255) : eatE (.ofNat c) (.ofNat b) = .ofNat (crcEat c b) := by
  have hl : limK .u32 = 4294967295 := rfl
  have hw : wr .u32 (.ofNat b) = .ofNat b := by
    show (Bool.casesOn (Nat.ble b (limK .u32)) _ (.ofNat b) : Int) = _
    rw [hl, ble_true (by omega)]
  have hx : bitN Nat.xor xorB .u32 (.ofNat c) (.ofNat b) = .ofNat (c ^^^ b) := by
    show (Bool.casesOn (Nat.ble c (limK .u32) && Nat.ble b (limK .u32)) _ (.ofNat (Nat.xor c b)) : Int) = _
    rw [hl, ble_true h, ble_true (by omega)]
    show Int.ofNat (c ^^^ b) = Int.ofNat (c ^^^ b)
    exact Eq.refl _
  have h0 : c ^^^ b ≤ 4294967295 := by
    have : c ^^^ b < 2 ^ 32 := Nat.xor_lt_two_pow (by omega) (by omega)
    omega
  have h1 := crcStep_le h0
  have h2 := crcStep_le h1
  have h3 := crcStep_le h2
  have h4 := crcStep_le h3
  have h5 := crcStep_le h4
  have h6 := crcStep_le h5
  have h7 := crcStep_le h6
  unfold eatE
  rw [hw, hx, stepE_eq h0, stepE_eq h1, stepE_eq h2, stepE_eq h3, stepE_eq h4, stepE_eq h5, stepE_eq h6, stepE_eq h7]
  unfold crcEat
  exact Eq.refl _

theorem kStep_ev (args : List V) (s : St) (v : V) (s' : St) (h : kStep args s = some (v, s')) : (evN Tryz.prog nums.known 20).call 427 args s = some (v, s') := by
  unfold kStep at h
  split at h
  · rename_i c
    split at h
    · rename_i hb
      exact ((step_ev (.ofNat c) s).trans (congrArg (fun z => some (V.int .u32 z, s)) (stepE_eq (Nat.le_of_ble_eq_true hb)))).trans h
    · cases h
  · cases h

theorem kEat_ev (args : List V) (s : St) (v : V) (s' : St) (h : kEat args s = some (v, s')) : (evN Tryz.prog (nums.known.add 427 false kStepE) 40).call 416 args s = some (v, s') := by
  unfold kEat at h
  split at h
  · rename_i c b
    split at h
    · rename_i hb
      have hb1 : Nat.ble c (limK .u32) = true := by
        cases hc : Nat.ble c (limK .u32) with
        | true => rfl
        | false => rw [hc] at hb; cases hb
      have hb2 : Nat.ble b (limK .u8) = true := by
        cases hc : Nat.ble b (limK .u8) with
        | true => rfl
        | false => rw [hc, Bool.and_false] at hb; cases hb
      exact ((eat_ev (.ofNat c) (.ofNat b) s).trans (congrArg (fun z => some (V.int .u32 z, s)) (eatE_eq (Nat.le_of_ble_eq_true hb1) (Nat.le_of_ble_eq_true hb2)))).trans h
    · cases h
  · cases h

/-- the known functions of the run -/
def kBase : Known := (nums.known.add 427 false kStep).add 416 false kEat

theorem kBase_ok : KOK Tryz.prog kBase :=
  KOK.of_ev (e := evN Tryz.prog (nums.known.add 427 false kStepE) 40) (KOK.of_ev (e := evN Tryz.prog nums.known 20) k0_ok (ev0_ok 20) kStep_ev) (ev1_ok 40) kEat_ev

theorem evB_ok (n : Nat) : EvOK Tryz.prog (evN Tryz.prog kBase n) := am_sound mixed ng kBase_ok n

end Go.AM

namespace Go.AM
open Go.Proofs

/-- a closed run, asked for again behind whatever has been laid -/
def kRuns : KF := fun args s => match args with
  | [] => some (.bool true, s)
  | _ => none

/-- a machine's run from nothing at all, that answers true, is a known function -/
theorem kRuns_ok {P : Program} {K : Known} (h : KOK P K) {e : Ev} (he : EvOK P e) {f : FuncId} (hr : ∃ s', e.call f [] St.empty = some (.bool true, s')) : KOK P (K.add f false kRuns) := by
  intro f' d' g' hK args s v s' hv
  rcases add_spec hK with ⟨rfl, rfl, rfl⟩ | hK
  · unfold kRuns at hv
    split at hv
    · injection hv with hv; injection hv with e1 e2; subst e1; subst e2
      refine ⟨Nat.le_refl _, fun φ w args' hh hw ha hfree => .inr ?_⟩
      cases ha
      obtain ⟨s1, hr⟩ := hr
      obtain ⟨hm, hs⟩ := he.call _ _ _ _ _ hr
      obtain ⟨h1, h2⟩ := hs (fun _ => none) w [] ⟨fun i b N o hi => (by cases hi), fun i j b N M hi => (by cases hi)⟩ Wf.empty .nil (fun _ _ _ => rfl)
      refine ⟨h1, h2.mono fun en w' hret => ?_, fun hd => (by cases hd)⟩
      obtain ⟨φ', v', rfl, hvr, hf⟩ := hret
      have kept : ∀ b, b < w.heap.size → w'.heap[b]? = w.heap[b]? := fun b hb => hf.goes.keeps b hb (fun i N hi => by cases hi)
      refine ⟨φ, v', rfl, ?_, ⟨⟨fun i b N o hi hs => ?_, hh.inj⟩, ⟨fun _ _ => rfl, Nat.le_refl _, fun i b N a1 a2 _ => absurd (Nat.lt_of_le_of_lt a1 a2) (Nat.lt_irrefl _), fun _ _ h => h, fun b hb _ => kept b hb, hf.goes.size⟩, hf.calm, hw⟩⟩
      · cases hvr; exact .bool true
      · obtain ⟨c, c1, c2⟩ := hh.obj i b N o hi hs
        exact ⟨c, by rw [kept b (Array.getElem?_eq_some_iff.1 c1).1]; exact c1, c2⟩
    · cases hv
  · exact h f' d' g' hK args s v s' hv

end Go.AM
