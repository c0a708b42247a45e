/-
  Proves that functions of the library, and functions that were run already, may be taken as known; each under the conditions that its theorem states.
-/
import Derived.Test.YtdboceaccgiklaaGreatAmSix
import Derived.Laws.Externs
set_option linter.all false
namespace Go.AM

variable {P : Program} {φ : Map} {w : World} {s s' : St}

abbrev KF := List V → St → Option (V × St)

/-- a function of Go's library that the model does itself, and what the machine does for it -/
def ExtOK (P : Program) (ex : Array Value → Sem Value) (g : KF) : Prop := ∀ args s v s', g args s = some (v, s') → s.next ≤ s'.next ∧
  ∀ (φ : Map) (w : World) (args' : List Value), HR φ s w → Wf s → VRs φ args args' → Free φ s s' → ∃ φ' v' w', (ex ⟨args'⟩).run P w = .ok v' w' ∧ VR φ' v v' ∧ Fine φ s w φ' s' w'

def Ext (P : Program) (f : FuncId) (ex : Array Value → Sem Value) : Prop := ∃ fn, P.funcs[f]? = some fn ∧ (fn.name == "runtime.NumGoroutine") = false ∧ fn.body.isNone = true ∧ Extern.findNext fn = none ∧ Extern.find fn = some ex

/-- one function more -/
def Known.add (K : Known) (f : FuncId) (d : Bool) (g : KF) : Known := fun f' => match Nat.beq f' f with
  | true => some (d, g)
  | false => K f'

theorem KOK.none : KOK P (fun _ => none) := fun _ _ _ h => by cases h

theorem add_spec {K : Known} {f f' : FuncId} {d d' : Bool} {g g' : KF} (h : Known.add K f d g f' = some (d', g')) : (f' = f ∧ d' = d ∧ g' = g) ∨ K f' = some (d', g') := by
  unfold Known.add at h
  split at h
  · rename_i hb; injection h with h; injection h with h1 h2; exact .inl ⟨Nat.eq_of_beq_eq_true hb, h1.symm, h2.symm⟩
  · exact .inr h

theorem KOK.ext {K : Known} (h : KOK P K) {f : FuncId} {ex : Array Value → Sem Value} {g : KF} (hx : Ext P f ex) (hg : ExtOK P ex g) : KOK P (K.add f false g) := by
  intro f' d' g' hK args s v s' hv
  rcases add_spec hK with ⟨rfl, rfl, rfl⟩ | hK
  · obtain ⟨hm, hs⟩ := hg args s v s' hv
    refine ⟨hm, fun φ w args' hr hw ha hfree => .inl ⟨rfl, ?_⟩⟩
    obtain ⟨φ', v', w', h1, h2, h3⟩ := hs φ w args' hr hw ha hfree
    obtain ⟨fn, e1, e2, e3, e4, e5⟩ := hx
    exact ⟨φ', v', w', by rw [run_callFunc_extern e1 e2 e3 e4 e5, h1]; rfl, h2, h3⟩
  · exact h f' d' g' hK args s v s' hv

/-- a function of which the machine itself, at a known level, says so -/
theorem KOK.of_ev {K : Known} (h : KOK P K) {e : Ev} (he : EvOK P e) {f : FuncId} {g : KF} (hg : ∀ args s v s', g args s = some (v, s') → e.call f args s = some (v, s')) : KOK P (K.add f false g) := by
  intro f' d' g' hK args s v s' hv
  rcases add_spec hK with ⟨rfl, rfl, rfl⟩ | hK
  · obtain ⟨hm, hs⟩ := he.call _ _ _ _ _ (hg args s v s' hv)
    refine ⟨hm, fun φ w args' hr hw ha hfree => .inr ?_⟩
    obtain ⟨h1, h2⟩ := hs φ w args' hr hw ha hfree
    exact ⟨h1, h2, fun hd => by cases hd⟩
  · exact h f' d' g' hK args s v s' hv

/-! ### atomics -/

def kLoad (k : IntKind) : KF := fun args s => match args with
  | [.ptr i off] => match s.get i with
    | some (.cells t _) => match t.get off with
      | some (.int k' n) => match eqK k k' with
        | true => some (.int k' n, s)
        | false => none
      | _ => none
    | _ => none
  | _ => none

def kStore : KF := fun args s => match args with
  | [.ptr i off, v] => match s.get i with
    | some (.cells t n) => wPut .undef s i (writeC t n off [v])
    | _ => none
  | _ => none

def kCas (k : IntKind) : KF := fun args s => match args with
  | [.ptr i off, .int _ x, .int ky y] => match s.get i with
    | some (.cells t n) => match t.get off with
      | some (.int k' m) => match eqK k k' && (eqI m x && Nat.ble (Nat.succ off) n) with
        | true => wPut (.bool true) s i (writeC t n off [.int ky y])
        | false => none
      | _ => none
    | _ => none
  | _ => none

def kAdd (k : IntKind) : KF := fun args s => match args with
  | [.ptr i off, .int _ y] => match s.get i with
    | some (.cells t n) => match t.get off with
      | some (.int k' m) => match eqK k k' with
        | true => wPut (.int k (wr k (Int.add m y))) s i (writeC t n off [.int k (wr k (Int.add m y))])
        | false => none
      | _ => none
    | _ => none
  | _ => none

def kNone : KF := fun _ s => some (.undef, s)
def kMark : KF := fun args s => match args with
  | [.ptr _ _] => some (.undef, s)
  | _ => none

theorem run_store_one (h : HR φ s w) (hw : Wf s) {i b N : Nat} {t : Tr V} {n off : Nat} {u : V} {u' : Value} {o : O} (m : Mode) (hi : φ i = some (b, N)) (hs : s.get i = some (.cells t n)) (ho : writeC t n off [u] = some o) (hu : VR φ u u') (hp : s.put i (some o) = some s') :
    (store ⟨b, off, none⟩ u' m).run P w = .ok () (w.setCells b off [u']) ∧ Fine φ s w φ s' (w.setCells b off [u']) := by
  have hl : VRs φ [u] [u'] := .cons hu .nil
  obtain ⟨h1, h2⟩ := run_writeC (P := P) h hw hi hs ho hl hp
  refine ⟨?_, h2⟩
  obtain ⟨c, ty, fz, hc, hN, hn, hcs, hf, hz⟩ := h.cells hi hs
  obtain ⟨g1, g2, _⟩ := writeC_spec ho
  have hone := okCells_one g2 hl u' (List.mem_cons_self ..)
  simp only [List.length_cons, List.length_nil] at g1
  rw [run_store P w _ u' m hone]
  have hcell : w.cell? ⟨b, off, none⟩ = some (c[off]'(by omega)) := by rw [cell_at hc, Array.getElem?_eq_getElem (by omega)]
  have hfr : w.frozen? ⟨b, off, none⟩ = false := by
    simp only [World.frozen?, hc]
    obtain ⟨f1, f2⟩ := fz
    have := hf off (by omega)
    simp only at this ⊢
    cases hd : decide (f1 ≤ off) <;> cases hd' : decide (off < f2) <;> first | rfl | skip
    exact absurd ⟨of_decide_eq_true hd, of_decide_eq_true hd'⟩ this
  simp [hcell, hfr, World.setCells]

theorem run_read (h : HR φ s w) {i b N : Nat} {t : Tr V} {n off : Nat} {k k' : IntKind} {m : Int} (hi : φ i = some (b, N)) (hs : s.get i = some (.cells t n)) (ht : t.get off = some (.int k' m)) (hk : eqK k k' = true) :
    (Extern.Atomic.read (.int k) ⟨b, off, none⟩).run P w = .ok (.int k' m) w := by
  obtain ⟨c, ty, fz, hc, hN, hn, hcs, hf, hz⟩ := h.cells hi hs
  obtain ⟨v', e1, e2⟩ := hcs off _ ht
  cases e2
  have hcell : w.cell? ⟨b, off, none⟩ = some (.int k' m) := by rw [cell_at hc, e1]
  have := eqK_iff.1 hk
  subst this
  simp [Extern.Atomic.read, hcell]

theorem load_ok (k : IntKind) : ExtOK P (Extern.Atomic.loadT (.int k)) (kLoad k) := by
  intro args s v s' hv
  unfold kLoad at hv
  split at hv
  · rename_i i off
    split at hv
    · rename_i t n hs
      split at hv
      · rename_i k' m ht
        split at hv
        · rename_i hk
          injection hv with hv; injection hv with e1 e2; subst e1; subst e2
          refine ⟨Nat.le_refl _, fun φ w args' h hw ha _ => ?_⟩
          cases ha with
          | cons h1 h2 =>
          cases h2
          cases h1 with
          | @ptr _ b N _ hφ =>
          have e0 : Extern.Atomic.loadT (.int k) ⟨[.pointer (some ⟨b, off, none⟩)]⟩ = (do Extern.Atomic.read (.int k) (← asAddr (.pointer (some ⟨b, off, none⟩)))) := rfl
          exact ⟨φ, _, w, by rw [e0]; simp only [asAddr, Sem.run_bind, Sem.run_pure, Result.andThen_ok]; exact run_read h hφ hs ht hk, .int _ _, Fine.refl h hw⟩
        · cases hv
      · cases hv
    · cases hv
  · cases hv

theorem store_ok : ExtOK P Extern.Atomic.storeT kStore := by
  intro args s v s' hv
  unfold kStore at hv
  split at hv
  · rename_i i off u
    split at hv
    · rename_i t n hs
      obtain ⟨e, ob, ho, hp⟩ := wPut_spec hv
      subst e
      refine ⟨wPut_next hv, fun φ w args' h hw ha _ => ?_⟩
      cases ha with
      | cons h1 h2 =>
      cases h2 with
      | cons h2 h3 =>
      cases h3
      cases h1 with
      | @ptr _ b N _ hφ =>
      obtain ⟨r1, r2⟩ := run_store_one (P := P) h hw .atomic hφ hs ho h2 hp
      rename_i u'
      have e0 : Extern.Atomic.storeT ⟨[.pointer (some ⟨b, off, none⟩), u']⟩ = (do store (← asAddr (.pointer (some ⟨b, off, none⟩))) u' .atomic; pure Extern.Atomic.none_) := rfl
      exact ⟨φ, Go.undef, _, by rw [e0]; simp only [asAddr, Sem.run_bind, Sem.run_pure, Result.andThen_ok, r1]; rfl, VR.undef φ, r2⟩
    · cases hv
  · cases hv

theorem cas_ok (k : IntKind) : ExtOK P (Extern.Atomic.casT (.int k)) (kCas k) := by
  intro args s v s' hv
  unfold kCas at hv
  split at hv
  · rename_i i off kx x ky y
    split at hv
    · rename_i t n hs
      split at hv
      · rename_i k' m ht
        split at hv
        · rename_i hcond
          simp only [Bool.and_eq_true] at hcond
          obtain ⟨e, ob, ho, hp⟩ := wPut_spec hv
          subst e
          refine ⟨wPut_next hv, fun φ w args' h hw ha _ => ?_⟩
          cases ha with
          | cons h1 h2 =>
          cases h2 with
          | cons h2 h3 =>
          cases h3 with
          | cons h3 h4 =>
          cases h4
          cases h2
          cases h3
          cases h1 with
          | @ptr _ b N _ hφ =>
          obtain ⟨r1, r2⟩ := run_store_one (P := P) h hw .atomic hφ hs ho (.int ky y) hp
          have hrd := run_read (P := P) h hφ hs ht hcond.1
          obtain ⟨c, ty, fz, hc, hN, hn, hcs, hf, hz⟩ := h.cells hφ hs
          have hlt := Nat.le_of_ble_eq_true hcond.2.2
          have hfr : w.frozen? ⟨b, off, none⟩ = false := by
            simp only [World.frozen?, hc]
            obtain ⟨f1, f2⟩ := fz
            have := hf off (by omega)
            simp only at this ⊢
            cases hd : decide (f1 ≤ off) <;> cases hd' : decide (off < f2) <;> first | rfl | skip
            exact absurd ⟨of_decide_eq_true hd, of_decide_eq_true hd'⟩ this
          have htf : (Extern.Atomic.touchesFrozen ⟨b, off, none⟩).run P w = .ok false w := by
            simp [Extern.Atomic.touchesFrozen, viewAt, World.shape?, hc, hfr]
          have hmx : (m == x) = true := by rw [← eqI_eq]; exact hcond.2.1
          refine ⟨φ, .bool true, _, ?_, .bool true, r2⟩
          show ((do
            let a ← asAddr (.pointer (some ⟨b, off, none⟩))
            if ← Extern.Atomic.touchesFrozen a then unsupported (.unsafePointer "a write to bytes that a string shares")
            let eq ← match Extern.Atomic.T.int k, ← Extern.Atomic.read (.int k) a, Value.int kx x with
              | _, .int _ x, .int _ y => pure (x == y)
              | .ptr, .pointer x, .pointer y => samePointer x y
              | .int _, .pointer (some _), .int _ 0 | .int _, .int _ 0, .pointer (some _) => pure false
              | .int _, .pointer (some _), _ | .int _, _, .pointer (some _) => unsupported .addressObserved
              | _, _, _ => stuck "atomic.CompareAndSwap: old is no T"
            if eq then store a (.int ky y) .atomic
            pure (.bool eq) : Sem Value)).run P w = _
          simp only [asAddr, Sem.run_bind, Sem.run_pure, Result.andThen_ok, htf, Bool.false_eq_true, if_false, hrd, hmx, if_true, r1]
        · cases hv
      · cases hv
    · cases hv
  · cases hv

theorem add_ok (k : IntKind) : ExtOK P (Extern.Atomic.update (Op.intArith .add) k true) (kAdd k) := by
  intro args s v s' hv
  unfold kAdd at hv
  split at hv
  · rename_i i off ky y
    split at hv
    · rename_i t n hs
      split at hv
      · rename_i k' m ht
        split at hv
        · rename_i hk
          obtain ⟨e, ob, ho, hp⟩ := wPut_spec hv
          subst e
          refine ⟨wPut_next hv, fun φ w args' h hw ha _ => ?_⟩
          cases ha with
          | cons h1 h2 =>
          cases h2 with
          | cons h2 h3 =>
          cases h3
          cases h2
          cases h1 with
          | @ptr _ b N _ hφ =>
          obtain ⟨r1, r2⟩ := run_store_one (P := P) h hw .atomic hφ hs ho (.int k _) hp
          have hrd := run_read (P := P) h hφ hs ht hk
          refine ⟨φ, .int k (wr k (Int.add m y)), _, ?_, .int k _, r2⟩
          have hw' : k.wrap (m + y) = wr k (Int.add m y) := (wr_eq k _).symm
          show ((do
            let a ← asAddr (.pointer (some ⟨b, off, none⟩))
            let old ← Extern.Atomic.read (.int k) a
            let new ← Op.intArith .add k (← asInt old) (← asInt (.int ky y))
            store a new .atomic
            pure (if true then new else old) : Sem Value)).run P w = _
          simp only [asAddr, Sem.run_bind, Sem.run_pure, Result.andThen_ok, hrd, asInt, asIntOf, Op.intArith, hw', r1, if_true]
        · cases hv
      · cases hv
    · cases hv
  · cases hv

theorem none_ok (m : Mark) : ExtOK P (fun _ => do mark m; pure Extern.Race.none_) kNone := by
  intro args s v s' hv
  simp only [kNone] at hv
  injection hv with hv; injection hv with e1 e2; subst e1; subst e2
  exact ⟨Nat.le_refl _, fun φ w args' h hw _ _ => ⟨φ, Go.undef, w, rfl, VR.undef φ, Fine.refl h hw⟩⟩

theorem mark_ok (m : Addr → Mark) : ExtOK P (Extern.Race.marked m) kMark := by
  intro args s v s' hv
  unfold kMark at hv
  split at hv
  · injection hv with hv; injection hv with e1 e2; subst e1; subst e2
    refine ⟨Nat.le_refl _, fun φ w args' h hw ha _ => ?_⟩
    cases ha with
    | cons h1 h2 =>
    cases h2
    cases h1 with
    | @ptr _ b N _ hφ => exact ⟨φ, Go.undef, w, rfl, VR.undef φ, Fine.refl h hw⟩
  · cases hv

end Go.AM

namespace Go.AM

/-! ### the checksum's steps -/

def crcStep (c : Nat) : Nat := Bool.casesOn (Nat.beq (Nat.mod c (nat_lit 2)) (nat_lit 1)) (Nat.div c (nat_lit 2)) (Nat.xor (Nat.div c (nat_lit 2)) (nat_lit 2197175160))
def crcEat (c b : Nat) : Nat := crcStep (crcStep (crcStep (crcStep (crcStep (crcStep (crcStep (crcStep (Nat.xor c b))))))))

def kStep : KF := fun args s => match args with
  | [.int .u32 (.ofNat c)] => match Nat.ble c (limK .u32) with
    | true => some (.int .u32 (.ofNat (crcStep c)), s)
    | false => none
  | _ => none

def kEat : KF := fun args s => match args with
  | [.int .u32 (.ofNat c), .int .u8 (.ofNat b)] => match Nat.ble c (limK .u32) && Nat.ble b (limK .u8) with
    | true => some (.int .u32 (.ofNat (crcEat c b)), s)
    | false => none
  | _ => none

/-- the numbers of the functions that are known as they are -/
structure Nums where
  disable : Nat
  enable : Nat
  acquire : Nat
  release : Nat
  load32 : Nat
  load64 : Nat
  store32 : Nat
  store64 : Nat
  cas : Nat
  add : Nat

def Nums.known (m : Nums) : Known := ((((((((((Known.add (fun _ => none) m.disable false kNone).add m.enable false kNone).add m.acquire false kMark).add m.release false kMark).add m.load32 false (kLoad .u32)).add m.load64 false (kLoad .u64)).add m.store32 false kStore).add m.store64 false kStore).add m.cas false (kCas .i32)).add m.add false (kAdd .i32))

end Go.AM
