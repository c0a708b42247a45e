/-
  Proves that the evaluator's tries and whole numbers are as the model's, and defines when abstract memory stands for the model's; no conditions.
-/
import Derived.Test.YtdboceaccgiklaaGreatAmOne
import Derived.Calls
import Derived.RangeFuncLeaves
import Derived.OrdersIn
import Derived.WalkKit
import Derived.Laws.Entries
set_option linter.all false
namespace Go.AM

/-! ### tries -/

theorem beq_false {i j : Nat} (h : ¬ i = j) : Nat.beq i j = false := by
  cases hb : Nat.beq i j with
  | false => rfl
  | true => exact absurd (Nat.eq_of_beq_eq_true hb) h

theorem beq_true {i j : Nat} (h : i = j) : Nat.beq i j = true := by subst h; exact Nat.beq_refl i

theorem getF_setF {α : Type} (x : Option α) : ∀ (f : Nat) (t t' : Tr α) (i j : Nat), Tr.setF x f t i = some t' → Tr.getF f t' j = if j = i then x else Tr.getF f t j := by
  intro f
  induction f with
  | zero => intro t t' i j h; simp [Tr.setF] at h
  | succ f ih =>
    have core : ∀ (l : Tr α) (o : Option α) (r t' : Tr α) (i j : Nat), Tr.setN x (Tr.setF x f) l o r i = some t' →
        Tr.getF (f + 1) t' j = if j = i then x else Tr.getN' (Tr.getF f) l o r j := by
      intro l o r t' i j h
      unfold Tr.setN at h
      by_cases hi : i = 0
      · subst hi
        simp at h
        subst h
        show Tr.getN' (Tr.getF f) l x r j = _
        by_cases hj : j = 0
        · subst hj; simp [Tr.getN']
        · have : Nat.beq j 0 = false := beq_false hj
          simp [Tr.getN', this, hj]
      · have hi' : Nat.beq i (nat_lit 0) = false := beq_false hi
        rw [hi'] at h
        simp only at h
        by_cases hm : Nat.mod i (nat_lit 2) = 1
        · have hm' : Nat.beq (Nat.mod i (nat_lit 2)) (nat_lit 1) = true := beq_true hm
          rw [hm'] at h
          simp only [Tr.inL] at h
          cases hl : Tr.setF x f l (Nat.div i (nat_lit 2)) with
          | none => rw [hl] at h; simp at h
          | some l' =>
            rw [hl] at h; simp at h; subst h
            show Tr.getN' (Tr.getF f) l' o r j = _
            have e := ih l l' (Nat.div i (nat_lit 2)) (Nat.div j (nat_lit 2)) hl
            by_cases hj : j = 0
            · subst hj; have : ¬ 0 = i := fun e => hi e.symm
              simp [Tr.getN', this]
            · have hj' : Nat.beq j (nat_lit 0) = false := beq_false hj
              by_cases hn : Nat.mod j (nat_lit 2) = 1
              · have hn' : Nat.beq (Nat.mod j (nat_lit 2)) (nat_lit 1) = true := beq_true hn
                simp only [Tr.getN', hj', hn']
                rw [e]
                by_cases hij : j = i
                · subst hij; simp
                · have : ¬ Nat.div j (nat_lit 2) = Nat.div i (nat_lit 2) := by
                    intro h1
                    have h1 : j / 2 = i / 2 := h1
                    have hm : i % 2 = 1 := hm
                    have hn : j % 2 = 1 := hn
                    omega
                  rw [if_neg this, if_neg hij]
              · have hn' : Nat.beq (Nat.mod j (nat_lit 2)) (nat_lit 1) = false := by
                  cases hb : Nat.beq (Nat.mod j (nat_lit 2)) (nat_lit 1) with
                  | false => rfl
                  | true => exact absurd (Nat.eq_of_beq_eq_true hb) hn
                have hij : ¬ j = i := fun e => hn (e ▸ hm)
                simp only [Tr.getN', hj', hn', if_neg hij]
        · have hm' : Nat.beq (Nat.mod i (nat_lit 2)) (nat_lit 1) = false := by
            cases hb : Nat.beq (Nat.mod i (nat_lit 2)) (nat_lit 1) with
            | false => rfl
            | true => exact absurd (Nat.eq_of_beq_eq_true hb) hm
          rw [hm'] at h
          simp only [Tr.inR] at h
          cases hl : Tr.setF x f r (Nat.pred (Nat.div i (nat_lit 2))) with
          | none => rw [hl] at h; simp at h
          | some r' =>
            rw [hl] at h; simp at h; subst h
            show Tr.getN' (Tr.getF f) l o r' j = _
            have e := ih r r' (Nat.pred (Nat.div i (nat_lit 2))) (Nat.pred (Nat.div j (nat_lit 2))) hl
            by_cases hj : j = 0
            · subst hj; have : ¬ 0 = i := fun e => hi e.symm
              simp [Tr.getN', this]
            · have hj' : Nat.beq j (nat_lit 0) = false := beq_false hj
              by_cases hn : Nat.mod j (nat_lit 2) = 1
              · have hn' : Nat.beq (Nat.mod j (nat_lit 2)) (nat_lit 1) = true := beq_true hn
                have hij : ¬ j = i := fun e => hm (e ▸ hn)
                simp only [Tr.getN', hj', hn', if_neg hij]
              · have hn' : Nat.beq (Nat.mod j (nat_lit 2)) (nat_lit 1) = false := by
                  cases hb : Nat.beq (Nat.mod j (nat_lit 2)) (nat_lit 1) with
                  | false => rfl
                  | true => exact absurd (Nat.eq_of_beq_eq_true hb) hn
                simp only [Tr.getN', hj', hn']
                rw [e]
                by_cases hij : j = i
                · subst hij; simp
                · have : ¬ Nat.pred (Nat.div j (nat_lit 2)) = Nat.pred (Nat.div i (nat_lit 2)) := by
                    intro h1
                    have h1 : j / 2 - 1 = i / 2 - 1 := h1
                    have hm : ¬ i % 2 = 1 := hm
                    have hn : ¬ j % 2 = 1 := hn
                    omega
                  rw [if_neg this, if_neg hij]
    intro t t' i j h
    cases t with
    | e =>
      have h' : Tr.setN x (Tr.setF x f) .e none .e i = some t' := h
      rw [core _ _ _ _ _ _ h']
      have : Tr.getN' (Tr.getF f) (Tr.e : Tr α) none Tr.e j = none := by
        have he : ∀ k, Tr.getF f (Tr.e : Tr α) k = none := by intro k; cases f <;> rfl
        unfold Tr.getN'
        cases Nat.beq j (nat_lit 0) <;> cases Nat.beq (Nat.mod j (nat_lit 2)) (nat_lit 1) <;> simp [he]
      rw [this]
      have : Tr.getF (f + 1) (Tr.e : Tr α) j = none := rfl
      rw [this]
    | n l o r =>
      have h' : Tr.setN x (Tr.setF x f) l o r i = some t' := h
      rw [core _ _ _ _ _ _ h']
      rfl

theorem get_set {α : Type} {t t' : Tr α} {i : Nat} {x : Option α} (h : t.set i x = some t') (j : Nat) : t'.get j = if j = i then x else t.get j :=
  getF_setF x _ t t' i j h

theorem get_e {α : Type} (j : Nat) : (Tr.e : Tr α).get j = none := rfl

theorem getN_spec {α : Type} (t : Tr α) : ∀ (k off : Nat) (l : List α), t.getN k off = some l → l.length = k ∧ ∀ j, j < k → t.get (off + j) = l[j]? := by
  intro k
  induction k with
  | zero => intro off l h; have h' : some [] = some l := h; simp at h'; subst h'; exact ⟨rfl, fun j hj => absurd hj (Nat.not_lt_zero _)⟩
  | succ k ih =>
    intro off l h
    have h' : (match t.get off with
      | some v => match t.getN k (Nat.succ off) with
        | some l => some (v :: l)
        | none => none
      | none => none) = some l := h
    cases hg : t.get off with
    | none => rw [hg] at h'; simp at h'
    | some v =>
      rw [hg] at h'; simp only at h'
      cases hn : t.getN k (Nat.succ off) with
      | none => rw [hn] at h'; simp at h'
      | some l' =>
        rw [hn] at h'; simp at h'; subst h'
        obtain ⟨hl, hj⟩ := ih _ _ hn
        refine ⟨by simp [hl], fun j hjk => ?_⟩
        cases j with
        | zero => simpa using hg
        | succ j =>
          have := hj j (by omega)
          rw [show off + (j + 1) = Nat.succ off + j by simp only [Nat.succ_eq_add_one]; omega, this]; rfl

theorem putN_spec {α : Type} : ∀ (l : List α) (t t' : Tr α) (off : Nat), Tr.putN l t off = some t' →
    ∀ j, t'.get j = if off ≤ j ∧ j < off + l.length then l[j - off]? else t.get j := by
  intro l
  induction l with
  | nil => intro t t' off h j; simp [Tr.putN] at h; subst h; rw [if_neg (by simp only [List.length_nil]; omega)]
  | cons v l ih =>
    intro t t' off h j
    simp only [Tr.putN] at h
    cases hs : t.set off (some v) with
    | none => rw [hs] at h; simp at h
    | some t1 =>
      rw [hs] at h; simp only at h
      rw [ih t1 t' _ h j, get_set hs]
      simp only [List.length_cons, Nat.succ_eq_add_one]
      by_cases hj : j = off
      · subst hj; rw [if_neg (by omega), if_pos rfl, if_pos (by omega)]; simp
      · by_cases hr : off + 1 ≤ j ∧ j < off + 1 + l.length
        · rw [if_pos hr, if_pos (by omega), show j - off = (j - (off + 1)) + 1 by omega]; rfl
        · rw [if_neg hr, if_neg hj, if_neg (by omega)]

/-! ### the relation -/

abbrev Map := Nat → Option (Nat × Nat)

mutual
inductive VR (φ : Map) : V → Value → Prop
  | bool (b : Bool) : VR φ (.bool b) (.bool b)
  | int (k : IntKind) (n : Int) : VR φ (.int k n) (.int k n)
  | str (s : ByteArray) : VR φ (.str s) (.string s)
  | ptr0 : VR φ .ptr0 (.pointer none)
  | ptr {i b N : Nat} (off : Nat) (h : φ i = some (b, N)) : VR φ (.ptr i off) (.pointer (some ⟨b, off, none⟩))
  | sl0 : VR φ .sl0 (.slice none 0 0)
  | slE (a : Addr) (cap : Nat) : VR φ .slE (.slice (some a) 0 cap)
  | slx {i b N : Nat} (off len cap : Nat) (h : φ i = some (b, N)) : VR φ (.sl i off len cap 0) (.slice (some ⟨b, off, none⟩) len cap)
  | sls {i b N : Nat} (off len cap es cap' : Nat) (h : φ i = some (b, N)) (hc : cap ≤ cap') (hN : off + cap' * (es + 1) = N) :
      VR φ (.sl i off len cap (es + 1)) (.slice (some ⟨b, off, none⟩) len cap')
  | map0 : VR φ .map0 (.map none)
  | map {i b N : Nat} (h : φ i = some (b, N)) : VR φ (.map i) (.map (some b))
  | fn (f : FuncId) {l m : List V} {l' m' : List Value} (h : VRs φ l l') (h' : VRs φ m m') : VR φ (.fn f l m) (.func (.func f) ⟨l'⟩ ⟨m'⟩)
  | yld {i b N : Nat} (h : φ i = some (b, N)) : VR φ (.yld i) (.func (.yield b) #[] #[])
  | fn0 : VR φ .fn0 .nilFunc
  | ifc (t : TypeId) {v : V} {v' : Value} (h : VR φ v v') : VR φ (.ifc t v) (.iface t v')
  | ifc0 : VR φ .ifc0 .nilIface
  | agg {l : List V} {l' : List Value} (h : VRs φ l l') : VR φ (.agg l) (.agg ⟨l'⟩)
  | tup {l : List V} {l' : List Value} (h : VRs φ l l') : VR φ (.tup l) (.tuple ⟨l'⟩)
inductive VRs (φ : Map) : List V → List Value → Prop
  | nil : VRs φ [] []
  | cons {v : V} {v' : Value} {l : List V} {l' : List Value} (h : VR φ v v') (t : VRs φ l l') : VRs φ (v :: l) (v' :: l')
end

theorem VR.undef (φ : Map) : VR φ V.undef undef := .tup .nil

/-- φ' goes on with φ -/
def Sub (φ φ' : Map) : Prop := ∀ i x, φ i = some x → φ' i = some x

theorem Sub.refl (φ : Map) : Sub φ φ := fun _ _ h => h
theorem Sub.trans {φ φ' φ'' : Map} (h : Sub φ φ') (h' : Sub φ' φ'') : Sub φ φ'' := fun i x e => h' i x (h i x e)

mutual
theorem VR.mono {φ φ' : Map} (hs : Sub φ φ') : ∀ {v : V} {v' : Value}, VR φ v v' → VR φ' v v'
  | _, _, .bool b => .bool b
  | _, _, .int k n => .int k n
  | _, _, .str s => .str s
  | _, _, .ptr0 => .ptr0
  | _, _, .ptr off h => .ptr off (hs _ _ h)
  | _, _, .sl0 => .sl0
  | _, _, .slE a c => .slE a c
  | _, _, .slx off len cap h => .slx off len cap (hs _ _ h)
  | _, _, .sls off len cap es cap' h hc hN => .sls off len cap es cap' (hs _ _ h) hc hN
  | _, _, .map0 => .map0
  | _, _, .map h => .map (hs _ _ h)
  | _, _, .fn f h h' => .fn f (VRs.mono hs h) (VRs.mono hs h')
  | _, _, .yld h => .yld (hs _ _ h)
  | _, _, .fn0 => .fn0
  | _, _, .ifc t h => .ifc t (VR.mono hs h)
  | _, _, .ifc0 => .ifc0
  | _, _, .agg h => .agg (VRs.mono hs h)
  | _, _, .tup h => .tup (VRs.mono hs h)
theorem VRs.mono {φ φ' : Map} (hs : Sub φ φ') : ∀ {l : List V} {l' : List Value}, VRs φ l l' → VRs φ' l l'
  | _, _, .nil => .nil
  | _, _, .cons h t => .cons (VR.mono hs h) (VRs.mono hs t)
end

theorem VRs.length {φ : Map} {l : List V} {l' : List Value} (h : VRs φ l l') : l'.length = l.length := by
  induction l generalizing l' with
  | nil => cases h; rfl
  | cons v l ih => cases h with | cons h t => simp [ih t]

theorem VRs.append {φ : Map} {l m : List V} {l' m' : List Value} (h : VRs φ l l') (h' : VRs φ m m') : VRs φ (l ++ m) (l' ++ m') := by
  induction l generalizing l' with
  | nil => cases h; exact h'
  | cons v l ih => cases h with | cons h t => exact .cons h (ih t)

theorem VRs.get {φ : Map} {l : List V} {l' : List Value} (h : VRs φ l l') {j : Nat} {v : V} (hj : l[j]? = some v) : ∃ v', l'[j]? = some v' ∧ VR φ v v' := by
  induction l generalizing l' j with
  | nil => simp at hj
  | cons u l ih =>
    cases h with
    | cons h t =>
      cases j with
      | zero => simp at hj; subst hj; exact ⟨_, rfl, h⟩
      | succ j => exact ih t (by simpa using hj)

theorem VRs.of_get {φ : Map} : ∀ {l : List V} {l' : List Value}, l'.length = l.length → (∀ (j : Nat) (v : V), l[j]? = some v → ∃ v', l'[j]? = some v' ∧ VR φ v v') → VRs φ l l'
  | [], l', hl, _ => by cases l' with | nil => exact .nil | cons => simp at hl
  | v :: l, l', hl, h => by
    cases l' with
    | nil => simp at hl
    | cons v' l' =>
      obtain ⟨u, hu, hv⟩ := h 0 v rfl
      simp at hu; subst hu
      exact .cons hv (VRs.of_get (by simpa using hl) fun j w hw => by have := h (j + 1) w (by simpa using hw); simpa using this)

theorem VRs.take {φ : Map} {l : List V} {l' : List Value} (n : Nat) (h : VRs φ l l') : VRs φ (l.take n) (l'.take n) := by
  induction l generalizing l' n with
  | nil => cases h; simp; exact .nil
  | cons v l ih => cases h with | cons h t => cases n with | zero => exact .nil | succ n => exact .cons h (ih n t)

theorem VRs.drop {φ : Map} {l : List V} {l' : List Value} (n : Nat) (h : VRs φ l l') : VRs φ (l.drop n) (l'.drop n) := by
  induction l generalizing l' n with
  | nil => cases h; simp; exact .nil
  | cons v l ih => cases h with | cons h t => cases n with | zero => exact .cons h t | succ n => exact ih n t

theorem VRs.set {φ : Map} {l : List V} {l' : List Value} (h : VRs φ l l') (j : Nat) {v : V} {v' : Value} (hv : VR φ v v') : VRs φ (l.set j v) (l'.set j v') := by
  induction l generalizing l' j with
  | nil => cases h; simp; exact .nil
  | cons u l ih => cases h with | cons h t => cases j with | zero => exact .cons hv t | succ j => exact .cons h (ih t j)

/-- entries of a map -/
inductive MR (φ : Map) : List (V × V × Nat) → List MapEntry → Prop
  | nil : MR φ [] []
  | cons {k v : V} {b : Nat} {e : MapEntry} {l : List (V × V × Nat)} {l' : List MapEntry} (hk : VR φ k e.key) (hv : VR φ v e.val) (hb : e.born = b) (t : MR φ l l') : MR φ ((k, v, b) :: l) (e :: l')

theorem MR.mono {φ φ' : Map} (hs : Sub φ φ') {l : List (V × V × Nat)} {l' : List MapEntry} (h : MR φ l l') : MR φ' l l' := by
  induction h with
  | nil => exact .nil
  | cons hk hv hb _ ih => exact .cons (hk.mono hs) (hv.mono hs) hb ih

/-- deferred calls -/
inductive DR (φ : Map) : List D → List Deferred → Prop
  | nil : DR φ [] []
  | call {f : FuncId} {args : List V} {cap args' : Array Value} {l : List D} {l' : List Deferred} (h : VRs φ args (args'.toList ++ cap.toList)) (t : DR φ l l') :
      DR φ (.call f args :: l) ({ target := .fn (.func f) cap, args := args' } :: l')
  | mark {r b N : Nat} {l : List D} {l' : List Deferred} (h : φ r = some (b, N)) (t : DR φ l l') : DR φ (.mark r :: l) ({ target := .collected b, args := #[] } :: l')

theorem DR.mono {φ φ' : Map} (hs : Sub φ φ') {l : List D} {l' : List Deferred} (h : DR φ l l') : DR φ' l l' := by
  induction h with
  | nil => exact .nil
  | call h _ ih => exact .call (h.mono hs) ih
  | mark h _ ih => exact .mark (hs _ _ h) ih

/-- temporaries -/
structure TmR (φ : Map) (t : Tr V) (n : Nat) (c : Array Value) : Prop where
  size : c.size = n
  got : ∀ i v, t.get i = some v → VR φ v (c.getD i undef)
  none : ∀ i, t.get i = none → c.getD i undef = Go.undef

theorem TmR.mono {φ φ' : Map} (hs : Sub φ φ') {t : Tr V} {n : Nat} {c : Array Value} (h : TmR φ t n c) : TmR φ' t n c :=
  ⟨h.size, fun i v hv => (h.got i v hv).mono hs, h.none⟩

/-- a loop's record -/
structure LR (φ : Map) (r : Lp) (c : Loop) : Prop where
  state : c.state = r.state
  pending : c.pending = r.pending
  tmps : TmR φ r.tmps r.size c.tmps
  params : c.params.toList = r.params
  assign : c.assign = r.assign
  body : c.body = r.body
  defers : ∃ N, φ r.defers = some (c.defers, N)

theorem LR.mono {φ φ' : Map} (hs : Sub φ φ') {r : Lp} {c : Loop} (h : LR φ r c) : LR φ' r c :=
  ⟨h.state, h.pending, h.tmps.mono hs, h.params, h.assign, h.body, let ⟨N, e⟩ := h.defers; ⟨N, hs _ _ e⟩⟩

/-- objects -/
inductive OR (φ : Map) (N : Nat) : O → Obj → Prop
  | cells {t : Tr V} {n : Nat} {c : Array Value} {ty : TypeId} {fz : Nat × Nat} (hN : c.size = N) (hn : n ≤ N)
      (hc : ∀ (j : Nat) (v : V), t.get j = some v → ∃ v', c[j]? = some v' ∧ VR φ v v')
      (hf : ∀ x, x < N → ¬ (fz.1 ≤ x ∧ x < fz.2)) (hz : fz.1 = fz.2 ∨ N ≤ fz.1) : OR φ N (.cells t n) (.cells c ty fz)
  | map {es : List (V × V × Nat)} {clock : Nat} {es' : Array MapEntry} (h : MR φ es es'.toList) : OR φ N (.map es clock) (.map es' clock)
  | iter {m b M since : Nat} {seen : List Nat} {last : Nat} (h : φ m = some (b, M)) : OR φ N (.iter m since seen last) (.mapIter (some b) since ⟨seen⟩ last)
  | loop {r : Lp} {c : Loop} (h : LR φ r c) : OR φ N (.loop r) (.loop c)
  | marks (b : Bool) : OR φ N (.marks b) (.deferred (if b then some [] else none))

theorem OR.mono {φ φ' : Map} (hs : Sub φ φ') {N : Nat} {o : O} {c : Obj} (h : OR φ N o c) : OR φ' N o c := by
  cases h with
  | cells hN hn hc hf hz => exact .cells hN hn (fun j v hj => let ⟨v', a, r⟩ := hc j v hj; ⟨v', a, r.mono hs⟩) hf hz
  | map h => exact .map (h.mono hs)
  | iter h => exact .iter (hs _ _ h)
  | loop h => exact .loop (h.mono hs)
  | marks b => exact .marks b

/-- memory -/
structure HR (φ : Map) (s : St) (w : World) : Prop where
  obj : ∀ i b N o, φ i = some (b, N) → s.get i = some o → ∃ c, w.heap[b]? = some c ∧ OR φ N o c
  inj : ∀ i j b N M, φ i = some (b, N) → φ j = some (b, M) → s.get i ≠ none → s.get j ≠ none → i = j

/-- an activation -/
structure AR (φ : Map) (a : A) (c : Act) : Prop where
  tmps : TmR φ a.t a.n c.tmps
  defers : DR φ a.defers c.defers

theorem AR.mono {φ φ' : Map} (hs : Sub φ φ') {a : A} {c : Act} (h : AR φ a c) : AR φ' a c := ⟨h.tmps.mono hs, h.defers.mono hs⟩

theorem AR.tm {φ : Map} {a : A} {c : Act} (h : AR φ a c) (i : Nat) : VR φ (a.tm i) (c.tmps.getD i undef) := by
  obtain ⟨t, n, ds⟩ := a
  simp only [A.tm]
  cases hg : t.get i with
  | some v => exact h.tmps.got i v hg
  | none => rw [h.tmps.none i hg]; exact VR.undef φ

/-- blocks that nobody alive leads to -/
def Idle (φ : Map) (s : St) (b : Nat) : Prop := ∀ i N, φ i = some (b, N) → s.get i = none

/-- from one state to a later one -/
structure Goes (φ : Map) (s : St) (w : World) (φ' : Map) (s' : St) (w' : World) : Prop where
  old : ∀ i, (i < s.next ∨ s'.next ≤ i) → φ' i = φ i
  next : s.next ≤ s'.next
  fresh : ∀ i b N, s.next ≤ i → i < s'.next → φ' i = some (b, N) → w.heap.size ≤ b ∨ ∃ k M, k < s.next ∧ φ k = some (b, M) ∧ s.get k ≠ none
  dead : ∀ i, i < s.next → s.get i = none → s'.get i = none
  keeps : ∀ b, b < w.heap.size → Idle φ s b → w'.heap[b]? = w.heap[b]?
  size : w.heap.size ≤ w'.heap.size

end Go.AM

namespace Go.AM

theorem ltI_eq (x y : Int) : ltI x y = decide (x < y) := by
  cases x with
  | ofNat a => cases y with
    | ofNat b =>
      show Nat.ble (Nat.succ a) b = _
      by_cases h : a < b
      · rw [decide_eq_true (by exact Int.ofNat_lt.2 h)]; exact Nat.ble_eq_true_of_le h
      · rw [decide_eq_false (by intro h'; exact h (Int.ofNat_lt.1 h'))]
        cases hb : Nat.ble (Nat.succ a) b with
        | false => rfl
        | true => exact absurd (Nat.le_of_ble_eq_true hb) h
    | negSucc b => show false = _; rw [decide_eq_false]; intro h; have h1 : 0 ≤ Int.ofNat a := Int.natCast_nonneg a; have h2 : Int.negSucc b < 0 := Int.negSucc_lt_zero b; omega
  | negSucc a => cases y with
    | ofNat b => show true = _; rw [decide_eq_true]; have h1 : 0 ≤ Int.ofNat b := Int.natCast_nonneg b; have h2 : Int.negSucc a < 0 := Int.negSucc_lt_zero a; omega
    | negSucc b =>
      show Nat.ble (Nat.succ b) a = _
      by_cases h : b < a
      · rw [decide_eq_true (by show Int.negSucc a < Int.negSucc b; omega)]; exact Nat.ble_eq_true_of_le h
      · rw [decide_eq_false (by intro h'; have : Int.negSucc a < Int.negSucc b := h'; omega)]
        cases hb : Nat.ble (Nat.succ b) a with
        | false => rfl
        | true => exact absurd (Nat.le_of_ble_eq_true hb) h

theorem eqI_eq (x y : Int) : eqI x y = (x == y) := by
  cases x with
  | ofNat a => cases y with
    | ofNat b =>
      show Nat.beq a b = _
      by_cases h : a = b
      · subst h; simp
      · rw [beq_false h]; symm; simp; intro e; exact h (Int.ofNat.inj e)
    | negSucc b => rfl
  | negSucc a => cases y with
    | ofNat b => rfl
    | negSucc b =>
      show Nat.beq a b = _
      by_cases h : a = b
      · subst h; simp
      · rw [beq_false h]; symm; simpa using h

theorem eqK_iff {a b : IntKind} : eqK a b = true ↔ a = b := by cases a <;> cases b <;> simp [eqK]

theorem limK_max (k : IntKind) : (limK k : Int) = k.max := by cases k <;> rfl

theorem wrap_lim {k : IntKind} {m : Nat} (h : m ≤ limK k) : k.wrap (m : Int) = m := by
  have hm : (m : Int) ≤ k.max := by rw [← limK_max]; exact Int.ofNat_le.2 h
  cases k <;> simp [IntKind.max, IntKind.signed, IntKind.bits] at hm <;> simp [IntKind.wrap, IntKind.signed, IntKind.bits] <;> omega

theorem wr_eq (k : IntKind) (n : Int) : wr k n = k.wrap n := by
  cases n with
  | ofNat m =>
    show (Bool.casesOn (Nat.ble m (limK k)) (k.wrap (.ofNat m)) (.ofNat m) : Int) = _
    cases hb : Nat.ble m (limK k) with
    | false => rfl
    | true => exact (wrap_lim (Nat.le_of_ble_eq_true hb)).symm
  | negSucc m => rfl

theorem limK_lt (k : IntKind) : ∃ e, limK k + 1 = 2 ^ e ∧ e ≤ k.bits := by
  cases k
  · exact ⟨7, rfl, by decide⟩
  · exact ⟨15, rfl, by decide⟩
  · exact ⟨31, rfl, by decide⟩
  · exact ⟨63, rfl, by decide⟩
  · exact ⟨8, rfl, by decide⟩
  · exact ⟨16, rfl, by decide⟩
  · exact ⟨32, rfl, by decide⟩
  · exact ⟨64, rfl, by decide⟩

theorem ofInt_nat {w a : Nat} (h : a < 2 ^ w) : (BitVec.ofInt w (a : Int)).toNat = a := by
  have h' : a % 2 ^ w = a := Nat.mod_eq_of_lt h
  rw [BitVec.toNat_ofInt]
  have : ((a : Int) % ((2 ^ w : Nat) : Int)) = ((a % 2 ^ w : Nat) : Int) := (Int.natCast_emod a (2 ^ w)).symm
  rw [this, h']; rfl

theorem bits_small {k : IntKind} {a : Nat} (h : a ≤ limK k) : (BitVec.ofInt k.bits (a : Int)).toNat = a := by
  obtain ⟨e, he, hb⟩ := limK_lt k
  refine ofInt_nat (Nat.lt_of_lt_of_le (Nat.lt_succ_of_le h) ?_)
  rw [Nat.succ_eq_add_one, he]; exact Nat.pow_le_pow_right (by omega) hb

theorem bitN_and (k : IntKind) (x y : Int) : bitN Nat.land andB k x y = andB k x y := by
  cases x with
  | negSucc a => rfl
  | ofNat a => cases y with
    | negSucc b => rfl
    | ofNat b =>
      show (Bool.casesOn (Nat.ble a (limK k) && Nat.ble b (limK k)) (andB k (.ofNat a) (.ofNat b)) (.ofNat (Nat.land a b)) : Int) = _
      cases ha : Nat.ble a (limK k) <;> cases hb : Nat.ble b (limK k) <;> simp only [Bool.and_true, Bool.and_false] <;> try rfl
      have ha := Nat.le_of_ble_eq_true ha
      have hb := Nat.le_of_ble_eq_true hb
      show ((Nat.land a b : Nat) : Int) = k.wrap _
      rw [BitVec.toNat_and]
      show _ = k.wrap (((BitVec.ofInt k.bits (a : Int)).toNat &&& (BitVec.ofInt k.bits (b : Int)).toNat : Nat) : Int)
      rw [bits_small ha, bits_small hb, wrap_lim (Nat.le_trans Nat.and_le_left ha)]
      rfl

theorem bitN_or (k : IntKind) (x y : Int) : bitN Nat.lor orB k x y = orB k x y := by
  cases x with
  | negSucc a => rfl
  | ofNat a => cases y with
    | negSucc b => rfl
    | ofNat b =>
      show (Bool.casesOn (Nat.ble a (limK k) && Nat.ble b (limK k)) (orB k (.ofNat a) (.ofNat b)) (.ofNat (Nat.lor a b)) : Int) = _
      cases ha : Nat.ble a (limK k) <;> cases hb : Nat.ble b (limK k) <;> simp only [Bool.and_true, Bool.and_false] <;> try rfl
      have ha := Nat.le_of_ble_eq_true ha
      have hb := Nat.le_of_ble_eq_true hb
      show ((Nat.lor a b : Nat) : Int) = k.wrap _
      rw [BitVec.toNat_or]
      show _ = k.wrap (((BitVec.ofInt k.bits (a : Int)).toNat ||| (BitVec.ofInt k.bits (b : Int)).toNat : Nat) : Int)
      obtain ⟨e, he, _⟩ := limK_lt k
      rw [bits_small ha, bits_small hb, wrap_lim (Nat.le_of_lt_succ (by rw [Nat.succ_eq_add_one, he]; exact Nat.or_lt_two_pow (by omega) (by omega)))]
      rfl

theorem bitN_xor (k : IntKind) (x y : Int) : bitN Nat.xor xorB k x y = xorB k x y := by
  cases x with
  | negSucc a => rfl
  | ofNat a => cases y with
    | negSucc b => rfl
    | ofNat b =>
      show (Bool.casesOn (Nat.ble a (limK k) && Nat.ble b (limK k)) (xorB k (.ofNat a) (.ofNat b)) (.ofNat (Nat.xor a b)) : Int) = _
      cases ha : Nat.ble a (limK k) <;> cases hb : Nat.ble b (limK k) <;> simp only [Bool.and_true, Bool.and_false] <;> try rfl
      have ha := Nat.le_of_ble_eq_true ha
      have hb := Nat.le_of_ble_eq_true hb
      show ((Nat.xor a b : Nat) : Int) = k.wrap _
      rw [BitVec.toNat_xor]
      show _ = k.wrap (((BitVec.ofInt k.bits (a : Int)).toNat ^^^ (BitVec.ofInt k.bits (b : Int)).toNat : Nat) : Int)
      obtain ⟨e, he, _⟩ := limK_lt k
      rw [bits_small ha, bits_small hb, wrap_lim (Nat.le_of_lt_succ (by rw [Nat.succ_eq_add_one, he]; exact Nat.xor_lt_two_pow (by omega) (by omega)))]
      rfl

end Go.AM
