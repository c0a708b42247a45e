/-
  Proves that the evaluator's operations that write nothing answer as the model's do, where abstract memory stands for the model's.
-/
import Derived.Test.YtdboceaccgiklaaGreatAmTwo
import Derived.Laws.Sem
import Derived.Laws.StructEq
import Derived.RangeFuncRecord
import Derived.MapKept
import Derived.Laws.BytesString
set_option linter.all false
namespace Go.AM

variable {P : Program} {φ : Map} {ρ : Rho} {ρc : Operand → Value} {w : World}

/-- an operand's value is known -/
abbrev Kn (φ : Map) (ρ : Rho) (ρc : Operand → Value) (x : Operand) : Prop := ∀ v, ρ x = some v → VR φ v (ρc x)

/-! ### constants -/

theorem ofC_VR {c : Value} {v : V} (h : ofC c = some v) : VR φ v c := by
  unfold ofC at h
  split at h <;> first | (injection h with h; subst h; constructor) | cases h

theorem ofCs_VRs : ∀ {cs : List Value} {l : List V}, ofCs cs = some l → VRs φ l cs
  | [], l, h => by simp [ofCs] at h; subst h; exact .nil
  | c :: cs, l, h => by
    simp only [ofCs] at h
    split at h
    · split at h
      · rename_i v hv _ vs hvs
        injection h with h; subst h
        exact .cons (ofC_VR hv) (ofCs_VRs hvs)
      · cases h
    · cases h

theorem ofV_VR {c : Value} {v : V} (h : ofV c = some v) : VR φ v c := by
  unfold ofV at h
  split at h
  · split at h
    · rename_i cs _ l hl; injection h with h; subst h; exact .agg (l' := cs.toList) (ofCs_VRs hl)
    · cases h
  · split at h
    · rename_i cs _ l hl; injection h with h; subst h; exact .tup (l' := cs.toList) (ofCs_VRs hl)
    · cases h
  · exact ofC_VR h

theorem evF_VR {a : A} {c : Act} (h : AR φ a c) (x : Operand) {v : V} (hv : evF x a = some v) : VR φ v (c.eval x) := by
  cases x with
  | tmp t => simp only [evF] at hv; injection hv with hv; subst hv; exact h.tm t
  | const k => exact ofV_VR hv
  | global g => cases hv
  | func f => simp only [evF] at hv; injection hv with hv; subst hv; exact .fn f .nil .nil

theorem evsR_VRs : ∀ {xs : List Operand} {l : List V}, (∀ x ∈ xs, Kn φ ρ ρc x) → evsR ρ xs = some l → VRs φ l (xs.map ρc)
  | [], l, _, h => by simp [evsR] at h; subst h; exact .nil
  | x :: xs, l, hk, h => by
    simp only [evsR] at h
    cases hx : ρ x with
    | none => rw [hx] at h; cases h
    | some v =>
      rw [hx] at h
      cases hs : evsR ρ xs with
      | none => rw [hs] at h; cases h
      | some vs =>
        rw [hs] at h; injection h with h; subst h
        exact .cons (hk x (by simp) v hx) (evsR_VRs (fun y hy => hk y (by simp [hy])) hs)

theorem evs_VRs {a : A} {c : Act} (h : AR φ a c) : ∀ {xs : List Operand} {l : List V}, evs a xs = some l → VRs φ l (xs.map c.eval)
  | [], l, e => by simp [evs] at e; subst e; exact .nil
  | x :: xs, l, e => by
    simp only [evs] at e
    cases hx : evF x a with
    | none => rw [hx] at e; cases e
    | some v =>
      rw [hx] at e
      cases hs : evs a xs with
      | none => rw [hs] at e; cases e
      | some vs =>
        rw [hs] at e; injection e with e; subst e
        exact .cons (evF_VR h x hx) (evs_VRs h hs)

/-! ### types -/

theorem run_typeInfo' {t : TypeId} {i : TypeInfo} (h : P.info? t = some i) : (typeInfo t).run P w = .ok i w := by
  simp [typeInfo, h]

theorem run_size {t : TypeId} {n : Nat} (h : sizeT P t = some n) : (sizeOf t).run P w = .ok n w := by
  unfold sizeT at h
  cases hi : P.info? t with
  | none => rw [hi] at h; cases h
  | some i => rw [hi] at h; injection h with h; subst h; simp [sizeOf, run_typeInfo' hi]

theorem run_und {t : TypeId} {d : TypeDesc} (h : P.underlying t = some d) : (underlying t).run P w = .ok d w := run_underlying h w

theorem run_isAgg {t : TypeId} {b : Bool} (h : isAggT P t = some b) : (isAgg t).run P w = .ok b w := by
  unfold isAggT at h
  split at h
  · rename_i hu; injection h with h; subst h; simp [isAgg, run_und hu]
  · rename_i hu; injection h with h; subst h; simp [isAgg, run_und hu]
  · rename_i d h1 h2 hu
    injection h with h; subst h
    simp only [isAgg, Sem.run_bind, run_und hu, Result.andThen_ok]
    cases d <;> first | rfl | (exact absurd rfl (h1 _)) | (exact absurd rfl (h2 _ _))
  · cases h

theorem run_zero {t : TypeId} {z : V} (h : zeroT P t = some z) : ∃ z', (zeroValue t).run P w = .ok z' w ∧ ∀ φ, VR φ z z' := by
  unfold zeroT at h
  cases hi : P.info? t with
  | none => rw [hi] at h; cases h
  | some i =>
    rw [hi] at h
    cases hz : i.zero with
    | none => simp [hz] at h
    | some z' => simp [hz] at h; exact ⟨z', by simp [zeroValue, run_typeInfo' hi, hz], fun φ => ofV_VR h⟩

theorem cells_VRs {v : V} {v' : Value} (h : VR φ v v') : VRs φ v.cells v'.cells.toList := by
  cases h with
  | agg h => exact h
  | tup h => exact .cons (.tup h) .nil
  | fn f h h' => exact .cons (.fn f h h') .nil
  | ifc t h => exact .cons (.ifc t h) .nil
  | bool b => exact .cons (.bool b) .nil
  | int k n => exact .cons (.int k n) .nil
  | str s => exact .cons (.str s) .nil
  | ptr0 => exact .cons .ptr0 .nil
  | ptr off h => exact .cons (.ptr off h) .nil
  | sl0 => exact .cons .sl0 .nil
  | slE a c => exact .cons (.slE a c) .nil
  | slx off len cap h => exact .cons (.slx off len cap h) .nil
  | sls off len cap es cap' h hc hN => exact .cons (.sls off len cap es cap' h hc hN) .nil
  | map0 => exact .cons .map0 .nil
  | map h => exact .cons (.map h) .nil
  | yld h => exact .cons (.yld h) .nil
  | fn0 => exact .cons .fn0 .nil
  | ifc0 => exact .cons .ifc0 .nil

theorem run_zeroCells {t : TypeId} {z : List V} (h : zeroCellsT P t = some z) : ∃ z', (zeroValue t).run P w = .ok z' w ∧ ∀ φ, VRs φ z z'.cells.toList := by
  unfold zeroCellsT at h
  cases hi : P.info? t with
  | none => rw [hi] at h; cases h
  | some i =>
    rw [hi] at h
    cases hz : i.zero with
    | none => simp [hz] at h
    | some z' =>
      simp only [hz] at h
      cases hv : ofV z' with
      | none => simp [hv] at h
      | some v => simp [hv] at h; subst h; exact ⟨z', by simp [zeroValue, run_typeInfo' hi, hz], fun φ => cells_VRs (ofV_VR hv)⟩

theorem run_part {t : TypeId} {l : List V} {off : Nat} {v : V} {cs : Array Value} (hl : VRs φ l cs.toList) (h : partV P t l off = some v) :
    ∃ v', (part t cs off).run P w = .ok v' w ∧ VR φ v v' := by
  unfold partV at h
  split at h
  · rename_i ha
    split at h
    · rename_i n hn
      injection h with h; subst h
      refine ⟨.agg (cs.extract off (off + n)), by simp [part, run_isAgg ha, run_size hn], ?_⟩
      have : VR φ (.agg ((l.drop off).take n)) (.agg ⟨(cs.toList.drop off).take n⟩) := .agg ((hl.drop off).take n)
      have e : cs.extract off (off + n) = ⟨(cs.toList.drop off).take n⟩ := by
        apply Array.ext'
        simp
      rw [e]; exact this
    · cases h
  · rename_i ha
    obtain ⟨v', hv', hr⟩ := hl.get h
    refine ⟨v', ?_, hr⟩
    have hv'' : cs[off]? = some v' := by rw [← hv']; simp
    simp [part, run_isAgg ha, hv'']
  · cases h

/-! ### numbers and texts -/

theorem run_intBin {op : BinOp} {k : IntKind} {x y : Int} {v : V} (t : TypeId) (h : intBin op k x y = some v) :
    ∃ v', (binOp op t (.int k x) (.int k y)).run P w = .ok v' w ∧ VR φ v v' := by
  cases op <;> simp only [intBin] at h
  case quo =>
    cases hy : eqI y (.ofNat 0) with
    | true => rw [show (nat_lit 0) = 0 from rfl, hy] at h; cases h
    | false =>
      rw [show (nat_lit 0) = 0 from rfl, hy] at h; injection h with h; subst h
      have hy : ¬ y = 0 := by rw [eqI_eq] at hy; simpa using hy
      exact ⟨.int k (k.wrap (x.tdiv y)), by simp [binOp, Op.intDiv, hy], by rw [wr_eq]; exact .int k _⟩
  case rem =>
    cases hy : eqI y (.ofNat 0) with
    | true => rw [show (nat_lit 0) = 0 from rfl, hy] at h; cases h
    | false =>
      rw [show (nat_lit 0) = 0 from rfl, hy] at h; injection h with h; subst h
      have hy : ¬ y = 0 := by rw [eqI_eq] at hy; simpa using hy
      exact ⟨.int k (x.tmod y), by simp [binOp, Op.intDiv, hy], .int k _⟩
  case add => injection h with h; subst h; exact ⟨_, by simp [binOp, Op.intArith]; rfl, by rw [wr_eq]; exact .int k _⟩
  case sub => injection h with h; subst h; exact ⟨_, by simp [binOp, Op.intArith]; rfl, by rw [wr_eq]; exact .int k _⟩
  case mul => injection h with h; subst h; exact ⟨_, by simp [binOp, Op.intArith]; rfl, by rw [wr_eq]; exact .int k _⟩
  case and => injection h with h; subst h; exact ⟨.int k (andB k x y), by rw [binOp_and, intBits_and]; rfl, by rw [bitN_and]; exact .int k _⟩
  case or => injection h with h; subst h; exact ⟨.int k (orB k x y), by rw [binOp_or, intBits_or]; rfl, by rw [bitN_or]; exact .int k _⟩
  case xor => injection h with h; subst h; exact ⟨.int k (xorB k x y), by rw [binOp_xor, intBits_xor]; rfl, by rw [bitN_xor]; exact .int k _⟩
  case andNot => injection h with h; subst h; exact ⟨.int k (andNotB k x y), by rw [binOp_andNot, intBits_andNot]; rfl, .int k _⟩
  case eql => injection h with h; subst h; exact ⟨_, by simp [binOp, Op.intCmp]; rfl, by rw [eqI_eq]; exact .bool _⟩
  case neq => injection h with h; subst h; exact ⟨_, by simp [binOp, Op.intCmp]; rfl, by rw [eqI_eq]; exact .bool _⟩
  case lss => injection h with h; subst h; exact ⟨_, by simp [binOp, Op.intCmp]; rfl, by rw [ltI_eq]; exact .bool _⟩
  case leq =>
    injection h with h; subst h
    have e : (!decide (y < x)) = decide (x ≤ y) := by simp [← Int.not_lt]
    exact ⟨.bool (decide (x ≤ y)), by rw [binOp_leq]; rfl, by rw [ltI_eq, e]; exact .bool _⟩
  case gtr => injection h with h; subst h; exact ⟨_, by simp [binOp, Op.intCmp]; rfl, by rw [ltI_eq]; exact .bool _⟩
  case geq =>
    injection h with h; subst h
    have e : (!decide (x < y)) = decide (x ≥ y) := by simp [← Int.not_lt]
    exact ⟨.bool (decide (x ≥ y)), by rw [binOp_geq]; rfl, by rw [ltI_eq, e]; exact .bool _⟩
  all_goals (cases h)

theorem run_shl {k : IntKind} {x : Int} {yk : IntKind} {y : Int} {v : V} (h : shlV k x y = some v) :
    ∃ v', (Op.shift .shl k x yk y).run P w = .ok v' w ∧ VR φ v v' := by
  cases y with
  | negSucc n => cases h
  | ofNat n =>
    simp only [shlV] at h
    injection h with h; subst h
    have hn : ¬ (Int.ofNat n < 0) := by simp
    refine ⟨.int k (k.wrap (x * 2 ^ (min n k.bits))), by unfold Op.shift; rw [if_neg hn]; rfl, ?_⟩
    rw [wr_eq]
    have : (Int.mul x (Int.ofNat (Nat.pow (nat_lit 2) (Nat.min n k.bits)))) = x * 2 ^ (min n k.bits) := by
      show x * ((2 ^ (min n k.bits) : Nat) : Int) = _
      simp
    rw [this]; exact .int k _

theorem run_shr {k : IntKind} {x : Int} {yk : IntKind} {y : Int} {v : V} (h : shrV k x y = some v) :
    ∃ v', (Op.shift .shr k x yk y).run P w = .ok v' w ∧ VR φ v v' := by
  cases y with
  | negSucc n => cases h
  | ofNat n =>
    simp only [shrV] at h
    injection h with h; subst h
    have hn : ¬ (Int.ofNat n < 0) := by simp
    refine ⟨.int k (x.fdiv (2 ^ (min n k.bits))), by unfold Op.shift; rw [if_neg hn]; rfl, ?_⟩
    have : (Int.ofNat (Nat.pow (nat_lit 2) (Nat.min n k.bits))) = 2 ^ (min n k.bits) := by
      show ((2 ^ (min n k.bits) : Nat) : Int) = _
      simp
    rw [this]; exact .int k _

theorem run_binInt {op : BinOp} {k k' : IntKind} {x y : Int} {v : V} (t : TypeId) (h : binInt op k x k' y = some v) :
    ∃ v', (binOp op t (.int k x) (.int k' y)).run P w = .ok v' w ∧ VR φ v v' := by
  have other : ∀ op, (Bool.casesOn (eqK k k') none (intBin op k x y) : Option V) = some v → ∃ v', (binOp op t (.int k x) (.int k' y)).run P w = .ok v' w ∧ VR φ v v' := by
    intro op' h'
    cases hk : eqK k k' with
    | false => rw [hk] at h'; cases h'
    | true => rw [hk] at h'; have := eqK_iff.1 hk; subst this; exact run_intBin t h'
  cases op <;> first | (exact run_shl (yk := k') h) | (exact run_shr (yk := k') h) | (exact other _ h)

theorem run_strBin {op : BinOp} {x y : ByteArray} {v : V} (t : TypeId) (h : strBin op x y = some v) :
    ∃ v', (binOp op t (.string x) (.string y)).run P w = .ok v' w ∧ VR φ v v' := by
  have e : binOp op t (.string x) (.string y) = Op.stringOp op x y := by cases op <;> rfl
  rw [e]
  cases op <;> simp only [strBin] at h
  case add =>
    split at h
    · cases h
    · rename_i hl; injection h with h; subst h; exact ⟨_, by simp only [Op.stringOp, if_neg hl]; rfl, .str _⟩
  case eql => injection h with h; subst h; exact ⟨_, rfl, .bool _⟩
  case neq => injection h with h; subst h; exact ⟨_, rfl, .bool _⟩
  case lss => injection h with h; subst h; exact ⟨_, rfl, .bool _⟩
  case leq => injection h with h; subst h; exact ⟨_, rfl, .bool _⟩
  case gtr => injection h with h; subst h; exact ⟨_, rfl, .bool _⟩
  case geq => injection h with h; subst h; exact ⟨_, rfl, .bool _⟩
  all_goals cases h

end Go.AM

namespace Go.AM

variable {P : Program} {φ : Map} {ρ : Rho} {ρc : Operand → Value} {w : World}

/-! ### comparisons -/

theorem run_eqScal {t : TypeId} {a b : V} {a' b' : Value} {r : Bool} (d : Nat) (ha : VR φ a a') (hb : VR φ b b') (h : eqScal (P.underlying t) a b = some r) :
    (Op.equalIn (d + 1) t a' b').run P w = .ok r w := by
  unfold eqScal at h
  split at h
  · rename_i hu
    split at h
    · split at h
      · cases ha; cases hb; injection h with h; subst h; exact run_equalIn_bool' w d t _ _ hu
      · cases h
    · cases h
  · rename_i k hu
    cases ha <;> first | (cases h; done) | skip
    rename_i k1 x
    cases hb <;> first | (cases h; done) | skip
    rename_i j y
    cases hk : eqK k1 j with
    | false => simp only [hk] at h; cases h
    | true =>
      simp only [hk] at h; have := eqK_iff.1 hk; subst this
      injection h with h; subst h; rw [eqI_eq]; exact run_equalIn_int w d t _ _ _ _ hu
  · rename_i hu
    split at h
    · split at h
      · cases ha; cases hb; injection h with h; subst h; rw [beq_toListBytes]; exact run_equalIn_string w d t _ _ hu
      · cases h
    · cases h
  · cases h

theorem isAgg_of_scal {t : TypeId} (h : scalT P t = true) : isAggT P t = some false := by
  unfold scalT at h
  unfold isAggT
  split at h <;> rename_i hu <;> first | (rw [hu]) | (cases h)

theorem run_eqScals (d : Nat) (w : World) : ∀ (fs : List Field) (i : Nat) (l m : List V) (l' m' : List Value) (xs ys : Array Value) (r : Bool), eqFields P fs i = true → VRs φ l l' → VRs φ m m' →
    xs.toList.drop i = l' → ys.toList.drop i = m' → eqScals P fs l m = some r → (Op.eqFields (d + 1) xs ys fs).run P w = .ok r w := by
  intro fs
  induction fs with
  | nil => intro i l m l' m' xs ys r _ _ _ _ _ h; simp only [eqScals] at h; injection h with h; subst h; rfl
  | cons f fs ih =>
    intro i l m l' m' xs ys r hf hl hm hx hy h
    simp only [eqFields] at hf
    split at hf
    · cases hf
    · rename_i hn
      have hn : ¬ f.name = "_" := by simpa using hn
      split at hf
      · rename_i ho
        have ho := Nat.eq_of_beq_eq_true ho
        split at hf
        · rename_i hs
          have hagg := isAgg_of_scal hs
          cases hl with
          | nil => cases m <;> simp [eqScals] at h
          | @cons a a' l l' ha hl =>
            cases hm with
            | nil => simp [eqScals] at h
            | @cons b b' m m' hb hm =>
              have gx : xs[i]? = some a' := by
                have := congrArg List.head? hx
                simp at this
                simpa using this
              have gy : ys[i]? = some b' := by
                have := congrArg List.head? hy
                simp at this
                simpa using this
              have px : (part f.type xs f.offset).run P w = .ok a' w := by rw [ho]; simp [part, run_isAgg hagg, gx]
              have py : (part f.type ys f.offset).run P w = .ok b' w := by rw [ho]; simp [part, run_isAgg hagg, gy]
              simp only [eqScals] at h
              simp only [Op.eqFields, Sem.run_bind, if_pos hn, px, py, Result.andThen_ok, ne_eq, hn, not_false_eq_true, if_true]
              cases hc : eqScal (P.underlying f.type) a b with
              | none => rw [hc] at h; cases h
              | some c =>
                rw [hc] at h
                rw [run_eqScal d ha hb hc]
                cases c with
                | false => injection h with h; subst h; simp
                | true =>
                  simp only [Result.andThen_ok, Bool.not_true, Bool.false_eq_true, if_false]
                  exact ih (Nat.succ i) l m l' m' xs ys r hf hl hm
                    (by rw [show Nat.succ i = i + 1 from rfl, ← List.drop_drop, hx]; rfl) (by rw [show Nat.succ i = i + 1 from rfl, ← List.drop_drop, hy]; rfl) h
        · cases hf
      · cases hf

theorem eqGuardType_scal {t : TypeId} (d : Nat) (h : scalT P t = true) : P.eqGuardType (d + 1) t = false := by
  unfold scalT at h
  unfold Program.eqGuardType
  split at h <;> rename_i hu <;> first | (rw [hu]) | (cases h)

theorem eqGuardType_fields (d : Nat) : ∀ (fs : List Field) (i : Nat), eqFields P fs i = true → (fs.any fun f => f.name != "_" && P.eqGuardType (d + 1) f.type) = false := by
  intro fs
  induction fs with
  | nil => intro i _; rfl
  | cons f fs ih =>
    intro i hf
    simp only [eqFields] at hf
    split at hf
    · cases hf
    · split at hf
      · split at hf
        · rename_i hs
          simp [List.any_cons, eqGuardType_scal d hs]
          have := ih _ hf
          simpa using this
        · cases hf
      · cases hf

theorem eqIn_pp {t e : TypeId} (d : Nat) (hu : P.underlying t = some (.pointer e)) (b : Option Addr) : (Op.equalIn (d + 1) t (.pointer none) (.pointer b)).run P w = .ok b.isNone w := by
  simp [Op.equalIn, run_und hu]
theorem eqIn_pp0 {t e : TypeId} (d : Nat) (hu : P.underlying t = some (.pointer e)) (a : Addr) : (Op.equalIn (d + 1) t (.pointer (some a)) (.pointer none)).run P w = .ok false w := by
  simp [Op.equalIn, run_und hu]
theorem eqIn_ss {t e : TypeId} (d : Nat) (hu : P.underlying t = some (.slice e)) (n m n' m' : Nat) (b : Option Addr) : (Op.equalIn (d + 1) t (.slice none n m) (.slice b n' m')).run P w = .ok b.isNone w := by
  simp [Op.equalIn, run_und hu]
theorem eqIn_ss0 {t e : TypeId} (d : Nat) (hu : P.underlying t = some (.slice e)) (n m n' m' : Nat) (a : Addr) : (Op.equalIn (d + 1) t (.slice (some a) n m) (.slice none n' m')).run P w = .ok false w := by
  simp [Op.equalIn, run_und hu]
theorem eqIn_mm {t k e : TypeId} (d : Nat) (hu : P.underlying t = some (.map k e)) (b : Option Nat) : (Op.equalIn (d + 1) t (.map none) (.map b)).run P w = .ok b.isNone w := by
  simp [Op.equalIn, run_und hu]
theorem eqIn_mm0 {t k e : TypeId} (d : Nat) (hu : P.underlying t = some (.map k e)) (a : Nat) : (Op.equalIn (d + 1) t (.map (some a)) (.map none)).run P w = .ok false w := by
  simp [Op.equalIn, run_und hu]

theorem run_eqV {op : BinOp} {t : TypeId} {x y : Operand} {a b : V} {a' b' : Value} {r : Bool} (hop : op = .eql ∨ op = .neq) (ha : VR φ a a') (hb : VR φ b b') (h : eqV P t a b = some r) :
    (eqGuard op t x y a' b').run P w = .ok () w ∧ (Op.equal t a' b').run P w = .ok r w := by
  unfold eqV at h
  split at h
  · rename_i hu
    split at h
    · split at h
      · cases ha; cases hb; injection h with h; subst h
        exact ⟨by rw [eqGuard_at_bool]; rfl, run_equalIn_bool' w 9999 t _ _ hu⟩
      · cases h
    · cases h
  · rename_i hu
    cases ha <;> first | (cases h; done) | skip
    · cases hb <;> first | (cases h; done) | (injection h with h; subst h; exact ⟨by rw [eqGuard_at_pointer]; rfl, eqIn_pp 9999 hu _⟩)
    · cases hb <;> first | (cases h; done) | (injection h with h; subst h; exact ⟨by rw [eqGuard_at_pointer]; rfl, eqIn_pp0 9999 hu _⟩)
  · rename_i hu
    cases ha <;> first | (cases h; done) | skip
    · cases hb <;> first | (cases h; done) | (injection h with h; subst h; exact ⟨by rw [eqGuard_at_slice]; rfl, eqIn_ss 9999 hu _ _ _ _ _⟩)
    · cases hb <;> first | (cases h; done) | (injection h with h; subst h; exact ⟨by rw [eqGuard_at_slice]; rfl, eqIn_ss0 9999 hu _ _ _ _ _⟩)
    · cases hb <;> first | (cases h; done) | (injection h with h; subst h; exact ⟨by rw [eqGuard_at_slice]; rfl, eqIn_ss0 9999 hu _ _ _ _ _⟩)
    · cases hb <;> first | (cases h; done) | (injection h with h; subst h; exact ⟨by rw [eqGuard_at_slice]; rfl, eqIn_ss0 9999 hu _ _ _ _ _⟩)
  · rename_i hu
    cases ha <;> first | (cases h; done) | skip
    · cases hb <;> first | (cases h; done) | (injection h with h; subst h; exact ⟨by rw [eqGuard_at_map]; rfl, eqIn_mm 9999 hu _⟩)
    · cases hb <;> first | (cases h; done) | (injection h with h; subst h; exact ⟨by rw [eqGuard_at_map]; rfl, eqIn_mm0 9999 hu _⟩)
  · rename_i fs hu
    cases ha <;> first | (cases h; done) | skip
    rename_i l l' hl
    cases hb <;> first | (cases h; done) | skip
    rename_i m m' hm
    simp only at h
    unfold eqStructV at h
    split at h
    · cases h
    · rename_i hst
      split at h
      · rename_i hf
        have hfs : P.fieldsOf t = fs := by simp [Program.fieldsOf, hu]
        refine ⟨?_, ?_⟩
        · refine run_eqGuard_agg w op t x y _ _ ?_
          obtain ⟨d, hd⟩ : ∃ d, P.depth = d + 1 + 1 := ⟨2 * (P.types.size + Made.depth), rfl⟩
          rw [hd]
          unfold Program.eqGuardType
          rw [hu]
          have := eqGuardType_fields (P := P) d fs.toList 0 hf
          simpa using this
        · show (Op.equalIn (9999 + 1) t _ _).run P w = _
          rw [run_equalIn_struct w 9999 t _ _ (by rw [hfs]; exact hu) hst, hfs]
          exact run_eqScals 9998 w fs.toList 0 l m l' m' _ _ r hf hl hm rfl rfl h
      · cases h
  · cases h

theorem eqGuard_other {op : BinOp} {t : TypeId} {x y : Operand} {a b : Value} (h : op ≠ .eql) (h' : op ≠ .neq) : eqGuard op t x y a b = pure () := by
  cases op <;> first | rfl | (exact absurd rfl h) | (exact absurd rfl h')

theorem run_binEq {op : BinOp} {t : TypeId} {x y : Operand} {a b : V} {a' b' : Value} {v : V} (hi : ∀ k n, a' ≠ .int k n) (hs : ∀ s, a' ≠ .string s) (ha : VR φ a a') (hb : VR φ b b') (h : binEq P op t a b = some v) :
    ∃ v', (do eqGuard op t x y a' b'; binOp op t a' b').run P w = .ok v' w ∧ VR φ v v' := by
  unfold binEq at h
  have e1 : binOp .eql t a' b' = (do pure (.bool (← Op.equal t a' b'))) := by
    cases ha <;> first | (exact absurd rfl (hi _ _)) | (exact absurd rfl (hs _)) | (cases hb <;> rfl)
  have e2 : binOp .neq t a' b' = (do pure (.bool (!(← Op.equal t a' b')))) := by
    cases ha <;> first | (exact absurd rfl (hi _ _)) | (exact absurd rfl (hs _)) | (cases hb <;> rfl)
  split at h
  · cases hq : eqV P t a b with
    | none => rw [hq] at h; cases h
    | some r =>
      rw [hq] at h; simp only [eqB] at h; injection h with h; subst h
      obtain ⟨h1, h2⟩ := run_eqV (w := w) (x := x) (y := y) (.inl rfl) ha hb hq
      exact ⟨.bool r, by rw [e1]; simp [h1, h2], by simp; exact .bool _⟩
  · cases hq : eqV P t a b with
    | none => rw [hq] at h; cases h
    | some r =>
      rw [hq] at h; simp only [eqB] at h; injection h with h; subst h
      obtain ⟨h1, h2⟩ := run_eqV (w := w) (x := x) (y := y) (.inr rfl) ha hb hq
      exact ⟨.bool (!r), by rw [e2]; simp [h1, h2], by simp; exact .bool _⟩
  · cases h

theorem run_binV {op : BinOp} {t : TypeId} {x y : Operand} {a b : V} {a' b' : Value} {v : V} (ha : VR φ a a') (hb : VR φ b b') (h : binV P op t a b = some v) :
    ∃ v', (do eqGuard op t x y a' b'; binOp op t a' b').run P w = .ok v' w ∧ VR φ v v' := by
  unfold binV at h
  split at h
  · split at h
    · cases ha; cases hb; rw [eqGuard_at_int]; simpa using run_binInt t h
    · cases h
  · split at h
    · cases ha; cases hb; rw [eqGuard_at_string]; simpa using run_strBin t h
    · cases h
  · rename_i h1 h2
    exact run_binEq (fun k n e => by subst e; cases ha; exact h1 _ _ rfl) (fun s e => by subst e; cases ha; exact h2 _ rfl) ha hb h

theorem run_unV {op : UnOp} {a : V} {a' : Value} {v : V} (ha : VR φ a a') (h : unV op a = some v) : ∃ v', (Op.unary op a').run P w = .ok v' w ∧ VR φ v v' := by
  cases op <;> simp only [unV] at h
  case neg =>
    split at h
    · cases ha; injection h with h; subst h; rename_i k n; exact ⟨.int k (k.wrap (0 - n)), rfl, by rw [wr_eq]; exact .int k _⟩
    · cases h
  case xor =>
    split at h
    · cases ha; injection h with h; subst h; rename_i k n; exact ⟨.int k (xorB k (if k.signed then -1 else k.max) n), rfl, .int k _⟩
    · cases h
  case not =>
    split at h
    · cases ha; injection h with h; subst h; exact ⟨_, rfl, .bool _⟩
    · cases h
  all_goals (cases h)

end Go.AM

namespace Go.AM

variable {P : Program} {φ : Map} {ρ : Rho} {ρc : Operand → Value} {w : World}

/-! ### fill -/

theorem fold_set (off : Nat) : ∀ (vs : List Value) (j : Nat) (cs : Array Value), off + j + vs.length ≤ cs.size →
    ((vs.zipIdx j).foldl (fun (cs : Array Value) (p : Value × Nat) => cs.setIfInBounds (off + p.2) p.1) cs).toList = cs.toList.take (off + j) ++ (vs ++ cs.toList.drop (off + j + vs.length)) := by
  intro vs
  induction vs with
  | nil => intro j cs h; simp
  | cons v vs ih =>
    intro j cs h
    simp only [List.zipIdx_cons, List.foldl_cons, List.length_cons] at h ⊢
    rw [ih (j + 1) _ (by simp; omega)]
    simp only [Array.toList_setIfInBounds]
    have h1 : off + j < cs.toList.length := by simp; omega
    rw [show off + (j + 1) = off + j + 1 by omega, show off + j + 1 + vs.length = off + j + (vs.length + 1) by omega]
    rw [List.take_set, List.drop_set, if_pos (by omega), List.take_succ_eq_append_getElem h1]
    rw [List.set_append_right _ _ (by simp; omega)]
    have : off + j - (List.take (off + j) cs.toList).length = 0 := by simp; omega
    rw [this]
    simp

inductive PR (φ : Map) : List (Nat × V) → List (Nat × Value) → Prop
  | nil : PR φ [] []
  | cons {i : Nat} {v : V} {v' : Value} {l : List (Nat × V)} {l' : List (Nat × Value)} (h : VR φ v v') (t : PR φ l l') : PR φ ((i, v) :: l) ((i, v') :: l')

theorem partsR_PR : ∀ {ps : List (Nat × Operand)} {l : List (Nat × V)}, (∀ p ∈ ps, Kn φ ρ ρc p.2) → partsR ρ ps = some l → PR φ l (ps.map fun p => (p.1, ρc p.2))
  | [], l, _, h => by simp [partsR] at h; subst h; exact .nil
  | (i, x) :: ps, l, hk, h => by
    simp only [partsR] at h
    cases hx : ρ x with
    | none => rw [hx] at h; cases h
    | some v =>
      rw [hx] at h
      cases hs : partsR ρ ps with
      | none => rw [hs] at h; cases h
      | some vs =>
        rw [hs] at h; injection h with h; subst h
        exact .cons (hk (i, x) (by simp) v hx) (partsR_PR (fun y hy => hk y (by simp [hy])) hs)

theorem fill_sound (place : Nat → Option (Nat × Nat)) : ∀ {ps : List (Nat × V)} {ps' : List (Nat × Value)} {cells l : List V} {cs : Array Value}, PR φ ps ps' → VRs φ cells cs.toList → fillV place cells ps = some l →
    ∃ ls, Instr.fill place cs ps' = some ls ∧ VRs φ l ls.toList := by
  intro ps
  induction ps with
  | nil => intro ps' cells l cs hp hc h; cases hp; simp only [fillV] at h; injection h with h; subst h; exact ⟨cs, rfl, hc⟩
  | cons p ps ih =>
    intro ps' cells l cs hp hc h
    cases hp with
    | @cons i v v' _ l' hv ht =>
      simp only [fillV] at h
      cases hpl : place i with
      | none => rw [hpl] at h; cases h
      | some os =>
        obtain ⟨off, size⟩ := os
        rw [hpl] at h
        simp only at h
        split at h
        · cases h
        · rename_i hn
          have hv' := cells_VRs hv
          have e1 : v'.cells.size = v.cells.length := by have := hv'.length; simpa using this
          have e2 : cs.size = cells.length := by have := hc.length; simpa using this
          have hn1 : v.cells.length = size := Classical.byContradiction fun hh => hn (.inl hh)
          have hn2 : off + v.cells.length ≤ cells.length := Nat.le_of_not_lt fun hh => hn (.inr hh)
          have hf : (v'.cells.zipIdx.foldl (fun (cs : Array Value) (p : Value × Nat) => cs.setIfInBounds (off + p.2) p.1) cs).toList = cs.toList.take off ++ (v'.cells.toList ++ cs.toList.drop (off + v.cells.length)) := by
            have := fold_set off v'.cells.toList 0 cs (by simp [e1, e2]; exact hn2)
            simp only [Nat.add_zero, Array.length_toList, e1] at this
            rw [← this, ← Array.foldl_toList]
            simp
          obtain ⟨ls, h1, h2⟩ := ih (cs := v'.cells.zipIdx.foldl (fun (cs : Array Value) (p : Value × Nat) => cs.setIfInBounds (off + p.2) p.1) cs) ht (by rw [hf]; exact (hc.take off).append (hv'.append (hc.drop _))) h
          refine ⟨ls, ?_, h2⟩
          simp only [Instr.fill, hpl]
          rw [if_neg (by simp [e1, e2]; exact ⟨hn1, hn2⟩)]
          exact h1

theorem run_places : ∀ (fs : List Field) {l : List (Nat × Nat)}, placesL P fs = some l →
    (fs.mapM fun (f : Field) => (do pure (f.offset, ← sizeOf f.type) : Sem (Nat × Nat))).run P w = .ok l w := by
  intro fs
  induction fs with
  | nil => intro l h; simp only [placesL] at h; injection h with h; subst h; simp
  | cons f fs ih =>
    intro l h
    simp only [placesL] at h
    cases hs : sizeT P f.type with
    | none => rw [hs] at h; cases h
    | some s =>
      rw [hs] at h
      cases hl : placesL P fs with
      | none => rw [hl] at h; cases h
      | some l' =>
        rw [hl] at h; injection h with h; subst h
        rw [List.mapM_cons]
        have := ih hl
        simp only [Sem.run_bind, run_size hs, Result.andThen_ok, Sem.run_pure, this]

theorem run_build {t : TypeId} {ps : List (Nat × V)} {ps' : Array (Nat × Value)} {v : V} (hp : PR φ ps ps'.toList) (h : buildV P t ps = some v) :
    ∃ v', (Instr.build t ps').run P w = .ok v' w ∧ VR φ v v' := by
  unfold buildV at h
  cases hz : zeroCellsT P t with
  | none => rw [hz] at h; cases h
  | some zero =>
    rw [hz] at h
    obtain ⟨z', hz1, hz2⟩ := run_zeroCells (w := w) hz
    simp only at h
    cases hpl : placeOf P t with
    | none => rw [hpl] at h; cases h
    | some place =>
      rw [hpl] at h
      simp only at h
      cases hf : fillV place zero ps with
      | none => rw [hf] at h; cases h
      | some l =>
        rw [hf] at h; injection h with h; subst h
        unfold placeOf at hpl
        split at hpl
        · rename_i fields hu
          cases hpls : placesL P fields.toList with
          | none => rw [hpls] at hpl; cases hpl
          | some pl =>
            rw [hpls] at hpl; injection hpl with hpl; subst hpl
            obtain ⟨ls, h1, h2⟩ := fill_sound _ hp (hz2 φ) hf
            have hm : (fields.mapM fun (f : Field) => (do pure (f.offset, ← sizeOf f.type) : Sem (Nat × Nat))).run P w = .ok pl.toArray w := by
              rw [Array.mapM_eq_mapM_toList]
              rw [Sem.run_map, run_places fields.toList hpls]; rfl
            refine ⟨.agg ls, ?_, by have := VR.agg h2; simpa using this⟩
            simp only [Instr.build, Sem.run_bind, hz1, run_und hu, hm, Result.andThen_ok]
            have e : (fun (i : Nat) => pl.toArray[i]?) = fun (j : Nat) => pl[j]? := by funext i; simp
            rw [e, h1]; rfl
        · rename_i n e hu
          cases hs : sizeT P e with
          | none => rw [hs] at hpl; cases hpl
          | some size =>
            rw [hs] at hpl; injection hpl with hpl; subst hpl
            obtain ⟨ls, h1, h2⟩ := fill_sound _ hp (hz2 φ) hf
            refine ⟨.agg ls, ?_, by have := VR.agg h2; simpa using this⟩
            simp only [Instr.build, Sem.run_bind, hz1, run_und hu, run_size hs, Result.andThen_ok]
            rw [h1]; rfl
        · cases hpl

/-! ### bounds -/

theorem run_bound {x : Operand} {y dflt m : Nat} (code : BoundsCode) (hk : Kn φ ρ ρc x) (h : boundV y dflt (some (ρ x)) = some m) :
    (Instr.sliceBound (ρc x) y code).run P w = .ok m w ∧ m ≤ y := by
  cases hx : ρ x with
  | none => rw [hx] at h; cases h
  | some v =>
    rw [hx] at h
    have hv := hk v hx
    cases v <;> first | (cases h; done) | skip
    rename_i k n
    simp only [boundV] at h
    cases n with
    | negSucc n => cases h
    | ofNat n =>
      simp only [natOf] at h
      split at h
      · rename_i hb
        injection h with h; subst h
        have hb := Nat.le_of_ble_eq_true hb
        generalize ρc x = c at hv
        cases hv
        refine ⟨?_, hb⟩
        unfold Instr.sliceBound
        simp only [asIntOf, Sem.run_bind, Sem.run_pure, Result.andThen_ok]
        rw [if_pos ⟨by simp, by simpa using hb⟩]
        rfl
      · cases h

theorem run_bounds2 {ρl ρh : Option Operand} {len cap cap' l h : Nat} (isSlice : Bool) (hc : cap ≤ cap') (hl : ∀ x, ρl = some x → Kn φ ρ ρc x) (hh : ∀ x, ρh = some x → Kn φ ρ ρc x)
    (hb : bounds2 len cap (optR ρ ρl) (optR ρ ρh) = some (l, h)) :
    (Instr.sliceBounds isSlice len cap' (ρl.map ρc) (ρh.map ρc) none).run P w = .ok (l, h, cap') w ∧ l ≤ h ∧ (h ≤ cap ∨ h = len) := by
  unfold bounds2 at hb
  cases h1 : boundV cap len (optR ρ ρh) with
  | none => rw [h1] at hb; cases hb
  | some h0 =>
    rw [h1] at hb
    simp only at hb
    cases h2 : boundV h0 0 (optR ρ ρl) with
    | none => rw [h2] at hb; cases hb
    | some l0 =>
      rw [h2] at hb; simp only at hb; injection hb with hb; injection hb with e1 e2; subst e1; subst e2
      have hH : ∀ code, (match ρh.map ρc with | some v => Instr.sliceBound v cap' code | none => pure len : Sem Nat).run P w = .ok h0 w ∧ (h0 ≤ cap ∨ h0 = len) := by
        intro code
        cases ρh with
        | none => simp only [optR, boundV] at h1; injection h1 with h1; subst h1; exact ⟨rfl, .inr rfl⟩
        | some x =>
          obtain ⟨e, hle⟩ := run_bound (w := w) (P := P) code (hh x rfl) h1
          refine ⟨?_, .inl hle⟩
          -- the same number fits below the greater bound
          have h1' : boundV cap' len (some (ρ x)) = some h0 := by
            simp only [optR] at h1
            cases hx : ρ x with
            | none => rw [hx] at h1; cases h1
            | some v =>
              rw [hx] at h1
              cases v <;> first | (cases h1; done) | skip
              rename_i k n
              cases n with
              | negSucc n => cases h1
              | ofNat n =>
                simp only [boundV, natOf] at h1 ⊢
                split at h1
                · rename_i hb
                  injection h1 with h1; subst h1
                  rw [Nat.ble_eq_true_of_le (Nat.le_trans (Nat.le_of_ble_eq_true hb) hc)]
                · cases h1
          exact (run_bound code (hh x rfl) h1').1
      have hL : ∀ code, (match ρl.map ρc with | some v => Instr.sliceBound v h0 code | none => pure 0 : Sem Nat).run P w = .ok l0 w ∧ l0 ≤ h0 := by
        intro code
        cases ρl with
        | none => simp only [optR, boundV] at h2; injection h2 with h2; subst h2; exact ⟨rfl, Nat.zero_le _⟩
        | some x => exact run_bound code (hl x rfl) h2
      refine ⟨?_, (hL .sliceB).2, (hH .index).2⟩
      have hL := fun c => (hL c).1
      have hH := fun c => (hH c).1
      cases ρh with
      | none =>
        have hH : len = h0 := by have := hH .index; simpa using this
        subst hH
        cases ρl with
        | none =>
          have hL : 0 = l0 := by have := hL .index; simpa using this
          subst hL; rfl
        | some x =>
          have hL : ∀ code, (Instr.sliceBound (ρc x) len code).run P w = .ok l0 w := hL
          simp only [Instr.sliceBounds, Option.map_none, Option.map_some, Sem.run_bind, Sem.run_pure, Result.andThen_ok, hL]
      | some y =>
        have hH : ∀ code, (Instr.sliceBound (ρc y) cap' code).run P w = .ok h0 w := hH
        cases ρl with
        | none =>
          have hL : 0 = l0 := by have := hL .index; simpa using this
          subst hL
          simp only [Instr.sliceBounds, Option.map_none, Option.map_some, Sem.run_bind, Sem.run_pure, Result.andThen_ok, hH]
        | some x =>
          have hL : ∀ code, (Instr.sliceBound (ρc x) h0 code).run P w = .ok l0 w := hL
          simp only [Instr.sliceBounds, Option.map_none, Option.map_some, Sem.run_bind, Sem.run_pure, Result.andThen_ok, hL, hH]

theorem run_bounds3 {ρl ρh : Option Operand} {m : Operand} {cap len l h mx : Nat} (isSlice : Bool) (hl : ∀ x, ρl = some x → Kn φ ρ ρc x) (hh : ∀ x, ρh = some x → Kn φ ρ ρc x) (hm : Kn φ ρ ρc m) {cap' : Nat} (hc : cap ≤ cap')
    (hb : bounds3 cap (optR ρ ρl) (optR ρ ρh) (ρ m) = some (l, h, mx)) :
    (Instr.sliceBounds isSlice len cap' (ρl.map ρc) (ρh.map ρc) (some (ρc m))).run P w = .ok (l, h, mx) w ∧ l ≤ h ∧ h ≤ mx ∧ mx ≤ cap := by
  unfold bounds3 at hb
  cases h1 : boundV cap cap (some (ρ m)) with
  | none => rw [h1] at hb; cases hb
  | some m0 =>
    rw [h1] at hb
    simp only at hb
    obtain ⟨_, hmle⟩ := run_bound (w := w) (P := P) .index hm h1
    have h1' : boundV cap' cap (some (ρ m)) = some m0 := by
      cases hx : ρ m with
      | none => rw [hx] at h1; cases h1
      | some v =>
        rw [hx] at h1
        cases v <;> first | (cases h1; done) | skip
        rename_i k n
        cases n with
        | negSucc n => cases h1
        | ofNat n =>
          simp only [boundV, natOf] at h1 ⊢
          split at h1
          · rename_i hbl
            injection h1 with h1; subst h1
            rw [Nat.ble_eq_true_of_le (Nat.le_trans (Nat.le_of_ble_eq_true hbl) hc)]
          · cases h1
    have hM : ∀ code, (Instr.sliceBound (ρc m) cap' code).run P w = .ok m0 w := fun code => (run_bound code hm h1').1
    cases ρh with
    | none => simp only [optR] at hb; cases hb
    | some y =>
      simp only [optR] at hb
      cases h2 : boundV m0 m0 (some (ρ y)) with
      | none => rw [h2] at hb; cases hb
      | some h0 =>
        rw [h2] at hb; simp only at hb
        have hH : ∀ code, (Instr.sliceBound (ρc y) m0 code).run P w = .ok h0 w := fun code => (run_bound code (hh y rfl) h2).1
        have hhle := (run_bound (P := P) (w := w) .index (hh y rfl) h2).2
        cases ρl with
        | none =>
          simp only [optR, boundV] at hb
          injection hb with hb; injection hb with e1 e2; injection e2 with e2 e3; subst e1; subst e2; subst e3
          exact ⟨by simp only [Instr.sliceBounds, Option.map_none, Option.map_some, Sem.run_bind, Sem.run_pure, Result.andThen_ok, hM, hH], Nat.zero_le _, hhle, hmle⟩
        | some x =>
          simp only [optR] at hb
          cases h3 : boundV h0 0 (some (ρ x)) with
          | none => rw [h3] at hb; cases hb
          | some l0 =>
            rw [h3] at hb; simp only at hb
            injection hb with hb; injection hb with e1 e2; injection e2 with e2 e3; subst e1; subst e2; subst e3
            have hL : ∀ code, (Instr.sliceBound (ρc x) h0 code).run P w = .ok l0 w := fun code => (run_bound code (hl x rfl) h3).1
            exact ⟨by simp only [Instr.sliceBounds, Option.map_none, Option.map_some, Sem.run_bind, Sem.run_pure, Result.andThen_ok, hM, hH, hL], (run_bound (P := P) (w := w) .index (hl x rfl) h3).2, hhle, hmle⟩

end Go.AM

namespace Go.AM

variable {P : Program} {φ : Map} {ρ : Rho} {ρc : Operand → Value} {w : World}

/-! ### slices -/

theorem rowT_slice {t : TypeId} {s : Nat} (h : rowT P t = some (none, s)) : ∃ e, P.underlying t = some (.slice e) ∧ sizeT P e = some s := by
  unfold rowT at h
  split at h
  · split at h
    · injection h with h; injection h with h; cases h
    · cases h
  · rename_i e hu
    split at h
    · rename_i s' hs; injection h with h; injection h with h1 h2; subst h2; exact ⟨e, hu, hs⟩
    · cases h
  · cases h

theorem rowT_array {t : TypeId} {n s : Nat} (h : rowT P t = some (some n, s)) : ∃ e, P.underlying t = some (.array n e) ∧ sizeT P e = some s := by
  unfold rowT at h
  split at h
  · rename_i n' e hu
    split at h
    · rename_i s' hs; injection h with h; injection h with h1 h2; injection h1 with h1; subst h1; subst h2; exact ⟨e, hu, hs⟩
    · cases h
  · split at h
    · injection h with h; injection h with h1; cases h1
    · cases h
  · cases h

theorem add_mk (b off n : Nat) : Addr.add ⟨b, off, none⟩ n = ⟨b, off + n, none⟩ := Addr.add_lit b off n

theorem cutAt_VR {i b N off l h m size : Nat} (hi : φ i = some (b, N)) :
    VR φ (cutAt i off size 0 l h m) (.slice (some (if m = l then ⟨b, off, none⟩ else Addr.add ⟨b, off, none⟩ (l * size))) (h - l) (m - l)) := by
  unfold cutAt
  by_cases he : m = l
  · rw [beq_true he, if_pos he]; subst he; simp only [Nat.sub_self]; exact .slx _ _ _ hi
  · rw [beq_false he, if_neg he, add_mk]; exact .slx _ _ _ hi

/-- the row behind a slice expression of a slice -/
theorem run_sliceRow {t e : TypeId} {i off len cap es size : Nat} {b cap' : Nat} {ρl ρh ρm : Option Operand} {v : V} (hu : P.underlying t = some (.slice e)) (hs : sizeT P e = some size)
    (hl : ∀ x, ρl = some x → Kn φ ρ ρc x) (hh : ∀ x, ρh = some x → Kn φ ρ ρc x) (hm : ∀ x, ρm = some x → Kn φ ρ ρc x)
    (hi : VR φ (.sl i off len cap es) (.slice (some ⟨b, off, none⟩) len cap'))
    (h : sliceRow i off len cap es size (optR ρ ρl) (optR ρ ρh) (optR ρ ρm) = some v) :
    ∃ v', (Instr.sliceAt t (.slice (some ⟨b, off, none⟩) len cap') (ρl.map ρc) (ρh.map ρc) (ρm.map ρc)).run P w = .ok v' w ∧ VR φ v v' := by
  have hcap : cap ≤ cap' := by cases hi <;> first | exact Nat.le_refl _ | assumption
  have hφ : ∃ N, φ i = some (b, N) := by cases hi with
    | slx _ _ _ h => exact ⟨_, h⟩
    | sls _ _ _ _ _ h _ _ => exact ⟨_, h⟩
  obtain ⟨N, hφ⟩ := hφ
  have e0 : (Instr.sliceAt t (.slice (some ⟨b, off, none⟩) len cap') (ρl.map ρc) (ρh.map ρc) (ρm.map ρc)).run P w =
      ((Instr.sliceBounds true len cap' (ρl.map ρc) (ρh.map ρc) (ρm.map ρc)).run P w).andThen fun r w' => .ok (.slice (some (if r.2.2 = r.1 then ⟨b, off, none⟩ else Addr.add ⟨b, off, none⟩ (r.1 * size))) (r.2.1 - r.1) (r.2.2 - r.1)) w' := by
    simp only [Instr.sliceAt, Instr.slice, Sem.run_bind, run_und hu, Result.andThen_ok]
    generalize (Instr.sliceBounds true len cap' (ρl.map ρc) (ρh.map ρc) (ρm.map ρc)).run P w = r
    cases r with
    | halt x w => rfl
    | ok r w => simp only [Result.andThen_ok, run_size hs, Sem.run_pure]; split <;> rfl
  rw [e0]
  cases ρm with
  | some mo =>
    rw [show optR ρ (some mo) = some (ρ mo) from rfl, sliceRow] at h
    cases hb : bounds3 cap (optR ρ ρl) (optR ρ ρh) (ρ mo) with
    | none => rw [hb] at h; cases h
    | some r =>
      obtain ⟨l, hh', mx⟩ := r
      rw [hb] at h
      injection h with h; subst h
      have := (run_bounds3 (w := w) (P := P) (len := len) true hl hh (hm mo rfl) hcap hb).1
      exact ⟨_, by rw [Option.map_some, this]; rfl, cutAt_VR hφ⟩
  | none =>
    rw [show optR ρ (none : Option Operand) = none from rfl, sliceRow] at h
    cases hb : bounds2 len cap (optR ρ ρl) (optR ρ ρh) with
    | none => rw [hb] at h; cases h
    | some r =>
      obtain ⟨l, hh'⟩ := r
      rw [hb] at h; simp only at h
      obtain ⟨hr, hlh, hhc⟩ := run_bounds2 (w := w) (P := P) true hcap hl hh hb
      refine ⟨_, by rw [Option.map_none, hr]; rfl, ?_⟩
      cases es with
      | zero =>
        simp only at h
        injection h with h; subst h
        have : cap' = cap := by cases hi; rfl
        subst this
        exact cutAt_VR hφ
      | succ es =>
        simp only at h
        split at h
        · rename_i hes
          have hes := Nat.eq_of_beq_eq_true hes
          subst hes
          cases hi with
          | sls _ _ _ _ _ hφ' hc hN =>
            split at h
            · rename_i hlt
              have hlt := Nat.le_of_ble_eq_true hlt
              injection h with h; subst h
              simp only
              rw [if_neg (by omega), add_mk]
              refine .sls _ _ _ _ _ hφ' (by omega) ?_
              rw [Nat.add_assoc, ← Nat.add_mul, show l + (cap' - l) = cap' by omega]; exact hN
            · split at h
              · rename_i hlt
                have hlt := Nat.le_of_ble_eq_true hlt
                injection h with h; subst h
                have hz : hh' - l = 0 := by omega
                simp only [hz]
                exact .slE _ _
              · cases h
        · cases h

theorem optR_map (ρ : Rho) (x : Option Operand) (f : Operand → Value) : (optR ρ x = none ↔ x = none) := by cases x <;> simp [optR]

/-- a slice expression -/
theorem run_sliceV {t : TypeId} {a : V} {a' : Value} {ρl ρh ρm : Option Operand} {v : V}
    (hl : ∀ x, ρl = some x → Kn φ ρ ρc x) (hh : ∀ x, ρh = some x → Kn φ ρ ρc x) (hm : ∀ x, ρm = some x → Kn φ ρ ρc x)
    (ha : VR φ a a') (h : sliceV P t a (optR ρ ρl) (optR ρ ρh) (optR ρ ρm) = some v) :
    ∃ v', (Instr.sliceAt t a' (ρl.map ρc) (ρh.map ρc) (ρm.map ρc)).run P w = .ok v' w ∧ VR φ v v' := by
  cases a <;> first | (cases h; done) | skip
  case str s =>
    cases ha
    simp only [sliceV] at h
    split at h
    · rename_i hu
      cases ρm with
      | some m => simp only [optR] at h; cases h
      | none =>
        simp only [show optR ρ (none : Option Operand) = none from rfl] at h
        cases hb : bounds2 s.size s.size (optR ρ ρl) (optR ρ ρh) with
        | none => rw [hb] at h; cases h
        | some r =>
          obtain ⟨l, hi⟩ := r
          rw [hb] at h; injection h with h; subst h
          obtain ⟨hr, _⟩ := run_bounds2 (w := w) (P := P) false (Nat.le_refl _) hl hh hb
          refine ⟨.string (s.extract l hi), ?_, .str _⟩
          simp only [Instr.sliceAt, Instr.slice, Sem.run_bind, run_und hu, Result.andThen_ok, Option.map_none, Option.isSome_none, Bool.false_eq_true, if_false, Sem.run_pure, hr]
    · cases h
  case sl0 =>
    cases ha
    simp only [sliceV] at h
    split at h
    · rename_i s hr
      obtain ⟨e, hu, hs⟩ := rowT_slice hr
      cases ρm with
      | some m => simp only [optR] at h; cases h
      | none =>
        simp only [show optR ρ (none : Option Operand) = none from rfl] at h
        cases hb : bounds2 0 0 (optR ρ ρl) (optR ρ ρh) with
        | none => rw [hb] at h; cases h
        | some r =>
          obtain ⟨l, hi⟩ := r
          rw [hb] at h; injection h with h; subst h
          obtain ⟨hr, hlh, hhc⟩ := run_bounds2 (w := w) (P := P) true (Nat.le_refl _) hl hh hb
          have : hi = 0 := by omega
          subst this
          have : l = 0 := by omega
          subst this
          refine ⟨.slice none 0 0, ?_, .sl0⟩
          simp only [Instr.sliceAt, Instr.slice, Sem.run_bind, run_und hu, Result.andThen_ok, Option.map_none, Sem.run_pure, hr, run_size hs]
          rfl
    · cases h
  case slE =>
    cases ha with
    | slE ad cap =>
    simp only [sliceV] at h
    split at h
    · rename_i s hr
      obtain ⟨e, hu, hs⟩ := rowT_slice hr
      cases ρm with
      | some m => simp only [optR] at h; cases h
      | none =>
        simp only [show optR ρ (none : Option Operand) = none from rfl] at h
        cases hb : bounds2 0 0 (optR ρ ρl) (optR ρ ρh) with
        | none => rw [hb] at h; cases h
        | some r =>
          obtain ⟨l, hi⟩ := r
          rw [hb] at h; injection h with h; subst h
          obtain ⟨hr, hlh, hhc⟩ := run_bounds2 (w := w) (P := P) (cap' := cap) true (Nat.zero_le _) hl hh hb
          have : hi = 0 := by omega
          subst this
          have : l = 0 := by omega
          subst this
          refine ⟨.slice (some (if cap = 0 then ad else ad.add (0 * s))) 0 cap, ?_, .slE _ _⟩
          simp only [Instr.sliceAt, Instr.slice, Sem.run_bind, run_und hu, Result.andThen_ok, Option.map_none, Sem.run_pure, hr, run_size hs]
          split <;> rfl
    · cases h
  case sl i off len cap es =>
    simp only [sliceV] at h
    split at h
    · rename_i s hr
      obtain ⟨e, hu, hs⟩ := rowT_slice hr
      cases ha with
      | slx _ _ _ hφ => exact run_sliceRow hu hs hl hh hm (.slx _ _ _ hφ) h
      | sls _ _ _ _ _ hφ hc hN => exact run_sliceRow hu hs hl hh hm (.sls _ _ _ _ _ hφ hc hN) h
    · cases h
  case ptr i off =>
    simp only [sliceV] at h
    split at h
    · rename_i n s hr
      obtain ⟨e, hu, hs⟩ := rowT_array hr
      cases ha with
      | @ptr _ b N _ hφ =>
      have e0 : (Instr.sliceAt t (.pointer (some ⟨b, off, none⟩)) (ρl.map ρc) (ρh.map ρc) (ρm.map ρc)).run P w =
          ((Instr.sliceBounds false n n (ρl.map ρc) (ρh.map ρc) (ρm.map ρc)).run P w).andThen fun r w' => .ok (.slice (some (if r.2.2 = r.1 then ⟨b, off, none⟩ else Addr.add ⟨b, off, none⟩ (r.1 * s))) (r.2.1 - r.1) (r.2.2 - r.1)) w' := by
        simp only [Instr.sliceAt, Instr.sureAddr, Sem.run_bind, run_und hu, Result.andThen_ok, Sem.run_pure]
        generalize (Instr.sliceBounds false n n (ρl.map ρc) (ρh.map ρc) (ρm.map ρc)).run P w = r
        cases r with
        | halt x w => rfl
        | ok r w => simp only [Result.andThen_ok, run_size hs, Sem.run_pure]
      rw [e0]
      cases ρm with
      | some mo =>
        rw [show optR ρ (some mo) = some (ρ mo) from rfl, sliceRow] at h
        cases hb : bounds3 n (optR ρ ρl) (optR ρ ρh) (ρ mo) with
        | none => rw [hb] at h; cases h
        | some r =>
          obtain ⟨l, hh', mx⟩ := r
          rw [hb] at h
          injection h with h; subst h
          have := (run_bounds3 (w := w) (P := P) (len := n) false hl hh (hm mo rfl) (Nat.le_refl _) hb).1
          exact ⟨_, by rw [Option.map_some, this]; rfl, cutAt_VR hφ⟩
      | none =>
        rw [show optR ρ (none : Option Operand) = none from rfl, sliceRow] at h
        cases hb : bounds2 n n (optR ρ ρl) (optR ρ ρh) with
        | none => rw [hb] at h; cases h
        | some r =>
          obtain ⟨l, hh'⟩ := r
          rw [hb] at h; injection h with h; subst h
          obtain ⟨hr, _⟩ := run_bounds2 (w := w) (P := P) false (Nat.le_refl n) hl hh hb
          exact ⟨_, by rw [Option.map_none, hr]; rfl, cutAt_VR hφ⟩
    · cases h

end Go.AM

namespace Go.AM

variable {P : Program} {φ : Map} {ρ : Rho} {ρc : Operand → Value} {w : World}

/-! ### addresses and parts -/

theorem run_fieldAddrV {t : TypeId} {a : V} {a' : Value} {j : Nat} {v : V} (ha : VR φ a a') (h : fieldAddrV P t a j = some v) :
    ∃ v', (Instr.fieldAt t a' j).run P w = .ok v' w ∧ VR φ v v' := by
  cases a <;> first | (cases h; done) | skip
  rename_i i off
  cases ha with
  | @ptr _ b N _ hφ =>
  simp only [fieldAddrV] at h
  cases ho : fieldOff P t j with
  | none => rw [ho] at h; cases h
  | some o =>
    rw [ho] at h; injection h with h; subst h
    unfold fieldOff fieldOf at ho
    cases hu : P.underlying t with
    | none => simp [hu] at ho
    | some d =>
      cases d <;> simp only [hu] at ho <;> first | (cases ho; done) | skip
      rename_i fs
      cases hf : fs[j]? with
      | none => simp [hf] at ho
      | some f =>
        simp only [hf] at ho
        cases hs : sizeT P f.type with
        | none => simp [hs] at ho
        | some n =>
          cases n with
          | zero => simp [hs] at ho
          | succ n =>
            simp only [hs] at ho; injection ho with ho; subst ho
            refine ⟨.pointer (some ⟨b, off + f.offset, none⟩), ?_, .ptr _ hφ⟩
            simp only [Instr.fieldAt, Sem.run_bind, run_und hu, Result.andThen_ok, hf, Instr.sureAddr, Sem.run_pure, fieldPlace, run_size hs]
            rw [if_neg (by omega)]
            simp [Addr.add_lit]

theorem run_fieldV {t : TypeId} {a : V} {a' : Value} {j : Nat} {v : V} (ha : VR φ a a') (h : fieldV P t a j = some v) :
    ∃ v', (Instr.field t a' j).run P w = .ok v' w ∧ VR φ v v' := by
  unfold fieldV fieldOf at h
  cases hu : P.underlying t with
  | none => simp [hu] at h
  | some d =>
    cases d <;> simp only [hu] at h <;> first | (cases h; done) | skip
    rename_i fs
    cases hf : fs[j]? with
    | none => simp [hf] at h
    | some f =>
      simp only [hf] at h
      cases a <;> first | (cases h; done) | skip
      cases ha with
      | @agg l l' hl =>
      obtain ⟨v', h1, h2⟩ := run_part (w := w) (cs := ⟨l'⟩) hl h
      exact ⟨v', by simp only [Instr.field, Sem.run_bind, run_und hu, Result.andThen_ok, hf, asAgg, Sem.run_pure, h1], h2⟩

theorem run_indexAddrV {t : TypeId} {a x : V} {a' x' : Value} {v : V} (ha : VR φ a a') (hx : VR φ x x') (h : indexAddrV P t a x = some v) :
    ∃ v', (Instr.indexAt t a' x').run P w = .ok v' w ∧ VR φ v v' := by
  cases x <;> first | (cases h; done) | skip
  rename_i k n
  cases hx
  cases n with
  | negSucc n => cases h
  | ofNat n =>
    simp only [indexAddrV, natOf] at h
    cases a <;> first | (cases h; done) | skip
    case ptr i off =>
      simp only at h
      split at h
      · rename_i len s hr
        obtain ⟨e, hu, hs⟩ := rowT_array hr
        split at h
        · rename_i hb
          have hb := Nat.le_of_ble_eq_true hb
          injection h with h; subst h
          cases ha with
          | @ptr _ b N _ hφ =>
          refine ⟨.pointer (some ⟨b, off + n * s, none⟩), ?_, .ptr _ hφ⟩
          simp only [Instr.indexAt, asIntOf, Instr.sureAddr, Sem.run_bind, Sem.run_pure, run_und hu, Result.andThen_ok]
          rw [if_pos ⟨by simp, by simp; omega⟩]
          simp [run_size hs, Addr.add_lit]
        · cases h
      · cases h
    case sl i off len cap es =>
      simp only at h
      split at h
      · rename_i s hr
        obtain ⟨e, hu, hs⟩ := rowT_slice hr
        split at h
        · rename_i hb
          have hb := Nat.le_of_ble_eq_true hb
          injection h with h; subst h
          have : ∃ b N c, a' = .slice (some ⟨b, off, none⟩) len c ∧ φ i = some (b, N) := by
            cases ha with
            | slx _ _ _ hφ => exact ⟨_, _, _, rfl, hφ⟩
            | sls _ _ _ _ _ hφ _ _ => exact ⟨_, _, _, rfl, hφ⟩
          obtain ⟨b, N, c, ea, hφ⟩ := this
          subst ea
          refine ⟨.pointer (some ⟨b, off + n * s, none⟩), ?_, .ptr _ hφ⟩
          simp only [Instr.indexAt, asIntOf, Sem.run_bind, Sem.run_pure, run_und hu, Result.andThen_ok]
          rw [if_pos ⟨by simp, by simp; omega⟩]
          simp [run_size hs, Addr.add_lit]
        · cases h
      · cases h

theorem bytes_get (s : ByteArray) (n : Nat) : s[n]? = s.data.toList[n]? := by
  rw [getElem?_def]
  split
  · rename_i h
    have h' : n < s.data.toList.length := by simpa using h
    rw [List.getElem?_eq_getElem h']; rfl
  · rename_i h
    rw [List.getElem?_eq_none]
    have : ¬ n < s.size := h
    simp only [Array.length_toList]
    exact Nat.le_of_not_lt h

theorem run_indexV {t : TypeId} {a x : V} {a' x' : Value} {v : V} (ha : VR φ a a') (hx : VR φ x x') (h : indexV P t a x = some v) :
    ∃ v', (Instr.index t a' x').run P w = .ok v' w ∧ VR φ v v' := by
  cases x <;> first | (cases h; done) | skip
  rename_i k n
  cases hx
  cases n with
  | negSucc n => cases h
  | ofNat n =>
    simp only [indexV, natOf] at h
    cases a <;> first | (cases h; done) | skip
    case agg l =>
      simp only at h
      cases hu : P.underlying t with
      | none => simp [hu] at h
      | some d =>
        cases d <;> simp only [hu] at h <;> first | (cases h; done) | skip
        rename_i len e
        split at h
        · rename_i hlt
          cases hs : sizeT P e with
          | none => rw [hs] at h; cases h
          | some s =>
            rw [hs] at h
            cases ha with
            | @agg _ l' hl =>
            obtain ⟨v', h1, h2⟩ := run_part (w := w) (cs := ⟨l'⟩) hl h
            refine ⟨v', ?_, h2⟩
            simp only [Instr.index, asIntOf, Sem.run_bind, Sem.run_pure, run_und hu, Result.andThen_ok]
            rw [if_pos ⟨by simp, by simp; omega⟩]
            simp only [Sem.run_bind, run_size hs, Result.andThen_ok]
            exact h1
        · cases h
    case str s =>
      simp only at h
      cases hu : P.underlying t with
      | none => simp [hu] at h
      | some d =>
        cases d <;> simp only [hu] at h <;> first | (cases h; done) | skip
        split at h
        · rename_i b hb
          injection h with h; subst h
          cases ha
          refine ⟨.int .u8 b.toNat, ?_, .int _ _⟩
          simp only [Instr.index, asIntOf, Sem.run_bind, Sem.run_pure, run_und hu, Result.andThen_ok]
          rw [if_pos (by simp)]
          rw [show (Int.ofNat n).toNat = n from rfl, bytes_get, hb]
          rfl
        · cases h

theorem run_lenV {t ty : TypeId} {ts : Array TypeId} {a : V} {a' : Value} {v : V} (h0 : ts[0]? = some t) (ha : VR φ a a') (h : lenV P t a = some v) :
    ∃ v', (Builtin.len_ ts ty #[a']).run P w = .ok v' w ∧ VR φ v v' := by
  unfold lenV at h
  cases hu : P.underlying t with
  | none => simp [hu] at h
  | some d =>
    cases d <;> simp only [hu] at h <;> first | (cases h; done) | skip
    case string =>
      cases a <;> first | (cases h; done) | skip
      cases ha; injection h with h; subst h
      exact ⟨goInt _, by simp [Builtin.len_, h0, run_und hu], .int _ _⟩
    case array n e =>
      injection h with h; subst h
      exact ⟨goInt n, by simp [Builtin.len_, h0, run_und hu], .int _ _⟩
    case slice e =>
      cases a <;> first | (cases h; done) | skip
      all_goals (cases ha <;> injection h with h <;> subst h <;> exact ⟨goInt _, by simp [Builtin.len_, h0, run_und hu], .int _ _⟩)

theorem run_minV : ∀ {l : List V} {l' : List Value} {a : V} {a' : Value} {v : V}, VR φ a a' → VRs φ l l' → minV a l = some v →
    ∃ v', (l'.foldlM Builtin.min2 a').run P w = .ok v' w ∧ VR φ v v'
  | [], l', a, a', v, ha, hl, h => by
    cases hl; simp only [minV] at h; injection h with h; subst h
    exact ⟨a', rfl, ha⟩
  | b :: l, l', a, a', v, ha, hl, h => by
    cases hl with
    | @cons _ b' _ l' hb hl =>
    cases a <;> cases b <;> first | (cases h; done) | skip
    cases ha; cases hb
    rename_i k x j y
    have h : minV (.int k (Bool.casesOn (ltI y x) x y)) l = some v := h
    have e : (Bool.casesOn (ltI y x) x y : Int) = if y < x then y else x := by
      rw [ltI_eq]; by_cases hh : y < x <;> simp [hh]
    rw [e] at h
    obtain ⟨v', h1, h2⟩ := run_minV (.int k (if y < x then y else x)) hl h
    exact ⟨v', by rw [List.foldlM_cons]; simpa [Builtin.min2] using h1, h2⟩

theorem run_maxV : ∀ {l : List V} {l' : List Value} {a : V} {a' : Value} {v : V}, VR φ a a' → VRs φ l l' → maxV a l = some v →
    ∃ v', (l'.foldlM Builtin.max2 a').run P w = .ok v' w ∧ VR φ v v'
  | [], l', a, a', v, ha, hl, h => by
    cases hl; simp only [maxV] at h; injection h with h; subst h
    exact ⟨a', rfl, ha⟩
  | b :: l, l', a, a', v, ha, hl, h => by
    cases hl with
    | @cons _ b' _ l' hb hl =>
    cases a <;> cases b <;> first | (cases h; done) | skip
    cases ha; cases hb
    rename_i k x j y
    have h : maxV (.int k (Bool.casesOn (ltI x y) x y)) l = some v := h
    have e : (Bool.casesOn (ltI x y) x y : Int) = if y > x then y else x := by
      rw [ltI_eq]; by_cases hh : x < y <;> simp [hh]
    rw [e] at h
    obtain ⟨v', h1, h2⟩ := run_maxV (.int k (if y > x then y else x)) hl h
    exact ⟨v', by rw [List.foldlM_cons]; simpa [Builtin.max2] using h1, h2⟩

theorem run_convV {s d : TypeId} {a : V} {a' : Value} {v : V} (hs : (P.underlying s).isSome = true) (hstr : P.underlying d = some .string → P.underlying s = some .string) (ha : VR φ a a') (h : convV P d a = some v) :
    ∃ v', (convert s d a').run P w = .ok v' w ∧ VR φ v v' := by
  obtain ⟨sd, hsd⟩ := Option.isSome_iff_exists.1 hs
  unfold convV at h
  split at h
  · rename_i k hu
    cases a <;> first | (cases h; done) | skip
    cases ha; injection h with h; subst h
    rename_i k' n
    refine ⟨.int k (k.wrap n), ?_, by rw [wr_eq]; exact .int _ _⟩
    simp only [convert, Sem.run_bind, run_und hsd, run_und hu, Result.andThen_ok]
    cases sd <;> rfl
  · rename_i hu
    cases a <;> first | (cases h; done) | skip
    cases ha; injection h with h; subst h
    refine ⟨.string _, ?_, .str _⟩
    simp only [convert, Sem.run_bind, run_und (hstr hu), run_und hu, Result.andThen_ok]
    rfl
  · cases h

/-! ### all together -/

theorem Sem.value_run {s : Sem Value} {v' : Value} (h : s.run P w = .ok v' w) : (do pure (Next.value (← s)) : Sem Next).run P w = .ok (.value v') w := by
  simp only [Sem.run_bind, h, Result.andThen_ok, Sem.run_pure]

theorem of_run {s : Sem Value} {v : V} (h : ∃ v', s.run P w = .ok v' w ∧ VR φ v v') : ∃ v', (do pure (Next.value (← s)) : Sem Next).run P w = .ok (.value v') w ∧ VR φ v v' :=
  let ⟨v', h1, h2⟩ := h; ⟨v', Sem.value_run h1, h2⟩

theorem cl_convert {s d : TypeId} {x : Operand} {f : PureF} (h : convCl s d x P = .pure f) : f = pConv d x ∧ (P.underlying s).isSome = true ∧ (P.underlying d = some .string → P.underlying s = some .string) := by
  unfold convCl at h
  split at h
  · rename_i k hu
    split at h
    · rename_i hs; injection h with h; subst h; exact ⟨rfl, by rw [hs]; rfl, fun e => by rw [hu] at e; cases e⟩
    · cases h
  · split at h <;> cases h
  · split at h
    · cases h
    · rename_i hs; injection h with h; subst h; exact ⟨rfl, by rw [hs]; rfl, fun _ => hs⟩
    · cases h
  · split at h <;> cases h
  · cases h

theorem pure_sound {o : Oper} {f : PureF} {v : V} (hc : cl o.op P = .pure f) (hk : ∀ x ∈ o.op.operands.toList, Kn φ ρ ρc x) (hv : f P ρ = some v) :
    ∃ v', (execOp ρc o).run P w = .ok (.value v') w ∧ VR φ v v' := by
  obtain ⟨dst, op, ty, pos, after, guard⟩ := o
  simp only at hc hk
  cases op <;> simp only [cl] at hc
  case move x => injection hc with hc; subst hc; exact ⟨ρc x, rfl, hk x (by simp [Op.operands]) v hv⟩
  case assign x => injection hc with hc; subst hc; exact ⟨ρc x, rfl, hk x (by simp [Op.operands]) v hv⟩
  case pick c x y =>
    injection hc with hc; subst hc
    unfold pPick at hv
    cases hcv : ρ c with
    | none => rw [hcv] at hv; cases hv
    | some u =>
      have hu := hk c (by simp [Op.operands]) u hcv
      rw [hcv] at hv
      cases u <;> first | (cases hv; done) | skip
      rename_i b
      generalize hg : ρc c = cc at hu
      cases hu
      cases b with
      | false => exact ⟨ρc y, by simp [execOp, hg, asBool], hk y (by simp [Op.operands]) v hv⟩
      | true => exact ⟨ρc x, by simp [execOp, hg, asBool], hk x (by simp [Op.operands]) v hv⟩
  case build t ps =>
    injection hc with hc; subst hc
    unfold pBuild at hv
    cases hp : partsR ρ ps.toList with
    | none => rw [hp] at hv; cases hv
    | some l =>
      rw [hp] at hv
      have hP : PR φ l (ps.map fun p => (p.1, ρc p.2)).toList := by
        rw [Array.toList_map]
        exact partsR_PR (fun p hp => hk p.2 (by simp [Op.operands]; exact ⟨p.1, by simpa using hp⟩)) hp
      exact of_run (run_build hP hv)
  case nilCheck x =>
    injection hc with hc; subst hc
    unfold pNil at hv
    cases hx : ρ x with
    | none => rw [hx] at hv; cases hv
    | some u =>
      have hu := hk x (by simp [Op.operands]) u hx
      rw [hx] at hv
      generalize hg : ρc x = xc at hu
      cases u <;> first | (cases hv; done) | skip
      all_goals (injection hv with hv; subst hv; refine ⟨xc, ?_, hu⟩; cases hu; simp [execOp, hg])
  case binOp op t x y yt =>
    injection hc with hc; subst hc
    unfold pBin at hv
    cases hx : ρ x with
    | none => rw [hx] at hv; cases hv
    | some u =>
      cases hy : ρ y with
      | none => rw [hx, hy] at hv; cases hv
      | some u' =>
        rw [hx, hy] at hv
        exact of_run (run_binV (hk x (by simp [Op.operands]) u hx) (hk y (by simp [Op.operands]) u' hy) hv)
  case unOp op t x =>
    injection hc with hc; subst hc
    unfold pUn at hv
    cases hx : ρ x with
    | none => rw [hx] at hv; cases hv
    | some u => rw [hx] at hv; exact of_run (run_unV (hk x (by simp [Op.operands]) u hx) hv)
  case convert s d x =>
    obtain ⟨e, h1, h2⟩ := cl_convert hc
    subst e
    unfold pConv at hv
    cases hx : ρ x with
    | none => rw [hx] at hv; cases hv
    | some u => rw [hx] at hv; exact of_run (run_convV h1 h2 (hk x (by simp [Op.operands]) u hx) hv)
  case sliceToArrayPointer t x =>
    injection hc with hc; subst hc
    unfold pArr at hv
    cases hx : ρ x with
    | none => rw [hx] at hv; cases hv
    | some u =>
      have hu := hk x (by simp [Op.operands]) u hx
      rw [hx] at hv
      generalize hg : ρc x = xc at hu
      cases u <;> first | (cases hv; done) | skip
      rename_i i off len cap es
      simp only at hv
      split at hv
      · rename_i n e hu'
        split at hv
        · cases hv
        · rename_i hn
          injection hv with hv; subst hv
          have : ∃ b N c, xc = .slice (some ⟨b, off, none⟩) len c ∧ φ i = some (b, N) := by
            cases hu with
            | slx _ _ _ hφ => exact ⟨_, _, _, rfl, hφ⟩
            | sls _ _ _ _ _ hφ _ _ => exact ⟨_, _, _, rfl, hφ⟩
          obtain ⟨b, N, c, ea, hφ⟩ := this
          subst ea
          refine of_run ⟨.pointer (some ⟨b, off, none⟩), ?_, .ptr _ hφ⟩
          simp only [hg, Instr.arrayAt, Sem.run_bind, run_und hu', Result.andThen_ok, if_neg hn]
          rfl
      · cases hv
  case makeInterface t x =>
    injection hc with hc; subst hc
    unfold pIface at hv
    cases hx : ρ x with
    | none => rw [hx] at hv; cases hv
    | some u =>
      rw [hx] at hv
      simp only at hv
      split at hv
      · cases hv
      · rename_i d hn hu
        injection hv with hv; subst hv
        refine of_run ⟨.iface t (ρc x), ?_, .ifc t (hk x (by simp [Op.operands]) u hx)⟩
        simp only [Instr.makeInterface, Sem.run_bind, run_und hu, Result.andThen_ok]
        cases d <;> first | rfl | (exact absurd rfl (hn _))
      · cases hv
  case makeFunc fn first cap =>
    injection hc with hc; subst hc
    unfold pFunc at hv
    cases fn <;> first | (cases hv; done) | skip
    rename_i g
    simp only at hv
    cases h1 : evsR ρ first.toList with
    | none => rw [h1] at hv; cases hv
    | some l =>
      cases h2 : evsR ρ cap.toList with
      | none => rw [h1, h2] at hv; cases hv
      | some m =>
        rw [h1, h2] at hv; injection hv with hv; subst hv
        refine ⟨.func (.func g) (first.map ρc) (cap.map ρc), rfl, ?_⟩
        have a1 := evsR_VRs (fun x hx => hk x (by simp [Op.operands]; exact .inl (by simpa using hx))) h1
        have a2 := evsR_VRs (fun x hx => hk x (by simp [Op.operands]; exact .inr (by simpa using hx))) h2
        have e1 : first.map ρc = ⟨first.toList.map ρc⟩ := by apply Array.ext'; simp
        have e2 : cap.map ρc = ⟨cap.toList.map ρc⟩ := by apply Array.ext'; simp
        rw [e1, e2]; exact .fn g a1 a2
  case slice t x l h m =>
    injection hc with hc; subst hc
    unfold pSlice at hv
    cases hx : ρ x with
    | none => rw [hx] at hv; cases hv
    | some u =>
      rw [hx] at hv
      exact of_run (run_sliceV (fun y hy => hk y (by subst hy; simp [Op.operands])) (fun y hy => hk y (by subst hy; simp [Op.operands])) (fun y hy => hk y (by subst hy; simp [Op.operands]))
        (hk x (by simp [Op.operands]) u hx) hv)
  case fieldAddr t x j =>
    injection hc with hc; subst hc
    unfold pFA at hv
    cases hx : ρ x with
    | none => rw [hx] at hv; cases hv
    | some u => rw [hx] at hv; exact of_run (run_fieldAddrV (hk x (by simp [Op.operands]) u hx) hv)
  case field t x j =>
    injection hc with hc; subst hc
    unfold pField at hv
    cases hx : ρ x with
    | none => rw [hx] at hv; cases hv
    | some u => rw [hx] at hv; exact of_run (run_fieldV (hk x (by simp [Op.operands]) u hx) hv)
  case indexAddr t x i =>
    injection hc with hc; subst hc
    unfold pIA at hv
    cases hx : ρ x with
    | none => rw [hx] at hv; cases hv
    | some u =>
      cases hy : ρ i with
      | none => rw [hx, hy] at hv; cases hv
      | some u' =>
        rw [hx, hy] at hv
        exact of_run (run_indexAddrV (hk x (by simp [Op.operands]) u hx) (hk i (by simp [Op.operands]) u' hy) hv)
  case index t x i =>
    injection hc with hc; subst hc
    unfold pIndex at hv
    cases hx : ρ x with
    | none => rw [hx] at hv; cases hv
    | some u =>
      cases hy : ρ i with
      | none => rw [hx, hy] at hv; cases hv
      | some u' =>
        rw [hx, hy] at hv
        exact of_run (run_indexV (hk x (by simp [Op.operands]) u hx) (hk i (by simp [Op.operands]) u' hy) hv)
  case extract x i =>
    injection hc with hc; subst hc
    unfold pExtract at hv
    cases hx : ρ x with
    | none => rw [hx] at hv; cases hv
    | some u =>
      have hu := hk x (by simp [Op.operands]) u hx
      rw [hx] at hv
      generalize hg : ρc x = xc at hu
      cases u <;> first | (cases hv; done) | skip
      rename_i l
      cases hu with
      | @tup _ l' hl =>
      obtain ⟨v', h1, h2⟩ := hl.get hv
      refine of_run ⟨v', ?_, h2⟩
      simp [hg, Instr.extract, h1]
  case call c =>
    unfold callCl at hc
    split at hc
    · rename_i b hb
      cases b <;> simp only [builtinCl] at hc <;> first | (cases hc; done) | skip
      case len =>
        unfold lenCl at hc
        split at hc
        · split at hc
          · cases hc
          · injection hc with hc; subst hc
            unfold pLen at hv
            split at hv
            · rename_i x hxs
              cases hx : ρ x with
              | none => rw [hx] at hv; cases hv
              | some u =>
                rw [hx] at hv
                simp only at hv
                split at hv
                · rename_i t' ts' hts
                  have e1 : c.argTypes[0]? = some t' := by rw [← Array.getElem?_toList, hts]; rfl
                  have e2 : c.args.map ρc = #[ρc x] := by apply Array.ext'; simp [hxs]
                  have hu := hk x (by simp [Op.operands, Call.operands, hb, ← Array.mem_toList_iff, hxs]) u hx
                  obtain ⟨v', h1, h2⟩ := run_lenV (w := w) (ty := ty) e1 hu hv
                  refine ⟨v', ?_, h2⟩
                  simp only [execOp, resolve, hb, Sem.run_bind, Sem.run_pure, Result.andThen_ok, invoke, builtin, e2, h1]
                · cases hv
            · cases hv
        · cases hc
      case max =>
        injection hc with hc; subst hc
        unfold pMax at hv
        cases hs : evsR ρ c.args.toList with
        | none => rw [hs] at hv; cases hv
        | some l =>
          rw [hs] at hv
          cases l with
          | nil => cases hv
          | cons a l =>
            have hl := evsR_VRs (fun x hx => hk x (by simp [Op.operands, Call.operands, hb]; simpa using hx)) hs
            generalize hg : c.args.toList.map ρc = ll at hl
            cases hl with
            | cons ha hl =>
              obtain ⟨v', h1, h2⟩ := run_maxV (w := w) (P := P) ha hl hv
              refine ⟨v', ?_, h2⟩
              simp only [execOp, resolve, hb, Sem.run_bind, Sem.run_pure, Result.andThen_ok, invoke, builtin, Builtin.max_, Array.toList_map, hg, h1]
      case min =>
        injection hc with hc; subst hc
        unfold pMin at hv
        cases hs : evsR ρ c.args.toList with
        | none => rw [hs] at hv; cases hv
        | some l =>
          rw [hs] at hv
          cases l with
          | nil => cases hv
          | cons a l =>
            have hl := evsR_VRs (fun x hx => hk x (by simp [Op.operands, Call.operands, hb]; simpa using hx)) hs
            generalize hg : c.args.toList.map ρc = ll at hl
            cases hl with
            | cons ha hl =>
              obtain ⟨v', h1, h2⟩ := run_minV (w := w) (P := P) ha hl hv
              refine ⟨v', ?_, h2⟩
              simp only [execOp, resolve, hb, Sem.run_bind, Sem.run_pure, Result.andThen_ok, invoke, builtin, Builtin.min_, Array.toList_map, hg, h1]
    · cases hc
    · cases hc
  case defer c => unfold deferCl at hc; split at hc <;> cases hc
  all_goals (cases hc)

end Go.AM

namespace Go.AM

variable {P : Program} {φ : Map} {ρ : Rho} {ρc : Operand → Value} {w : World} {s : St}

/-! ### cells -/

theorem cell_at {c : Array Value} {ty : TypeId} {fz : Nat × Nat} {b : Nat} (h : w.heap[b]? = some (.cells c ty fz)) (off : Nat) : w.cell? ⟨b, off, none⟩ = c[off]? := by
  simp [World.cell?, h]

theorem HR.cells (h : HR φ s w) {i b N : Nat} {t : Tr V} {n : Nat} (hi : φ i = some (b, N)) (hs : s.get i = some (.cells t n)) :
    ∃ c ty fz, w.heap[b]? = some (.cells c ty fz) ∧ c.size = N ∧ n ≤ N ∧ (∀ (j : Nat) (v : V), t.get j = some v → ∃ v', c[j]? = some v' ∧ VR φ v v') ∧ (∀ x, x < N → ¬ (fz.1 ≤ x ∧ x < fz.2)) ∧ (fz.1 = fz.2 ∨ N ≤ fz.1) := by
  obtain ⟨c, hc, hr⟩ := h.obj i b N _ hi hs
  cases hr with
  | @cells _ _ c ty fz hN hn hcs hf hz => exact ⟨c, ty, fz, hc, hN, hn, hcs, hf, hz⟩

/-- cells that are read one behind the other -/
theorem run_getN (h : HR φ s w) {i b N : Nat} {t : Tr V} {n k off : Nat} {l : List V} (hi : φ i = some (b, N)) (hs : s.get i = some (.cells t n)) (hl : t.getN k off = some l) :
    ∃ l' : List Value, (loadCells ⟨b, off, none⟩ k).run P w = .ok l'.toArray w ∧ VRs φ l l' := by
  obtain ⟨c, ty, fz, hc, hN, hn, hcs, hf, hz⟩ := h.cells hi hs
  obtain ⟨h1, h2⟩ := getN_spec t k off l hl
  have key : ∀ j, j < k → ∃ v v', l[j]? = some v ∧ c[off + j]? = some v' ∧ VR φ v v' := by
    intro j hj
    have hlt : j < l.length := by omega
    obtain ⟨v', e1, e2⟩ := hcs (off + j) l[j] (by rw [h2 j hj]; simp)
    exact ⟨l[j], v', by simp, e1, e2⟩
  refine ⟨(List.range k).map fun j => c.getD (off + j) undef, ?_, ?_⟩
  · refine run_loadCells w ⟨b, off, none⟩ k (fun j => c.getD (off + j) undef) fun j hj => ?_
    obtain ⟨v, v', _, e, _⟩ := key j hj
    rw [add_mk, cell_at hc, e]
    simp [e]
  · refine VRs.of_get (by simp [h1]) fun j v hj => ?_
    have hjk : j < k := by rw [← h1]; exact (List.getElem?_eq_some_iff.1 hj).1
    obtain ⟨u, v', e1, e2, e3⟩ := key j hjk
    rw [hj] at e1; injection e1 with e1; subst e1
    exact ⟨v', by simp [hjk, e2], e3⟩

theorem run_loadV (h : HR φ s w) {i b N : Nat} {t : Tr V} {n off : Nat} {ty : TypeId} {v : V} (hi : φ i = some (b, N)) (hs : s.get i = some (.cells t n)) (hv : loadV P ty t off = some v) :
    ∃ v', (loadVar ty ⟨b, off, none⟩).run P w = .ok v' w ∧ VR φ v v' := by
  unfold loadV at hv
  split at hv
  · rename_i ha
    cases hz : sizeT P ty with
    | none => rw [hz] at hv; cases hv
    | some k =>
      rw [hz] at hv; simp only at hv
      cases hl : t.getN k off with
      | none => rw [hl] at hv; cases hv
      | some l =>
        rw [hl] at hv; injection hv with hv; subst hv
        obtain ⟨l', h1, h2⟩ := run_getN (P := P) h hi hs hl
        exact ⟨.agg l'.toArray, by simp only [loadVar, Sem.run_bind, run_isAgg ha, Result.andThen_ok, if_true, run_size hz, h1, Sem.run_pure], .agg h2⟩
  · rename_i ha
    obtain ⟨c, ty', fz, hc, hN, hn, hcs, hf, hz⟩ := h.cells hi hs
    obtain ⟨v', e1, e2⟩ := hcs off v hv
    refine ⟨v', ?_, e2⟩
    have : w.cell? ⟨b, off, none⟩ = some v' := by rw [cell_at hc, e1]
    simp [loadVar, run_isAgg ha, this]
  · cases hv

/-! ### maps -/

theorem HR.map (h : HR φ s w) {i b N : Nat} {es : List (V × V × Nat)} {clock : Nat} (hi : φ i = some (b, N)) (hs : s.get i = some (.map es clock)) :
    ∃ es', w.heap[b]? = some (.map es' clock) ∧ MR φ es es'.toList := by
  obtain ⟨c, hc, hr⟩ := h.obj i b N _ hi hs
  cases hr with
  | @map _ _ es' h => exact ⟨es', hc, h⟩

theorem okKey_spec {t : TypeId} {k : V} (h : okKey P t k = true) : ∃ kt e d, P.underlying t = some (.map kt e) ∧ P.underlying kt = some d ∧
    ((∃ ki k1 n, d = .int ki ∧ k = .int k1 n) ∨ (∃ s, d = .string ∧ k = .str s) ∨ (∃ b, d = .bool ∧ k = .bool b)) := by
  unfold okKey at h
  split at h
  · rename_i kt e hu
    split at h
    · rename_i ki hk
      split at h
      · exact ⟨kt, e, _, hu, hk, .inl ⟨_, _, _, rfl, rfl⟩⟩
      · cases h
    · rename_i hk
      split at h
      · exact ⟨kt, e, _, hu, hk, .inr (.inl ⟨_, rfl, rfl⟩)⟩
      · cases h
    · rename_i hk
      split at h
      · exact ⟨kt, e, _, hu, hk, .inr (.inr ⟨_, rfl, rfl⟩)⟩
      · cases h
    · cases h
  · cases h

theorem run_key {kt : TypeId} {d : TypeDesc} {k : V} {k' : Value} (hd : P.underlying kt = some d) (hk : VR φ k k')
    (h : (∃ ki k1 n, d = .int ki ∧ k = .int k1 n) ∨ (∃ s, d = .string ∧ k = .str s) ∨ (∃ b, d = .bool ∧ k = .bool b)) (em : Bool) (n : Nat) :
    (Instr.checkKey em (n + 1) kt k').run P w = .ok () w := by
  rcases h with ⟨ki, k1, n, rfl, rfl⟩ | ⟨s, rfl, rfl⟩ | ⟨b, rfl, rfl⟩ <;> cases hk <;> simp [Instr.checkKey, run_und hd]

theorem findK_now {d : TypeDesc} {k : V} {k' : Value} (hk : VR φ k k')
    (h : (∃ ki k1 n, d = .int ki ∧ k = .int k1 n) ∨ (∃ s, d = .string ∧ k = .str s) ∨ (∃ b, d = .bool ∧ k = .bool b)) :
    ∀ {es : List (V × V × Nat)} {es' : List MapEntry} (i : Nat) {r : Option (Nat × V × Nat)}, MR φ es es' → findK k es i = some r →
      ∃ r', Instr.findNow d k' es' i = some r' ∧ (match r with
        | none => r' = none
        | some (j, v, b) => ∃ v', r' = some (j, v') ∧ VR φ v v' ∧ i ≤ j ∧ ∃ e, es[j - i]? = some (e, v, b) ∧ keyEq k e = some true) := by
  intro es
  induction es with
  | nil => intro es' i r hm hf; cases hm; simp only [findK] at hf; injection hf with hf; subst hf; exact ⟨none, rfl, rfl⟩
  | cons e es ih =>
    intro es' i r hm hf
    cases hm with
    | @cons ek ev b e' _ es' h1 h2 h3 ht =>
    simp only [findK] at hf
    cases hq : keyEq k ek with
    | none => rw [hq] at hf; cases hf
    | some q =>
      rw [hq] at hf
      have hsame : Instr.sameNow d k' e'.key = some q := by
        generalize e'.key = kk at h1
        rcases h with ⟨ki, k1, n, rfl, rfl⟩ | ⟨s, rfl, rfl⟩ | ⟨b, rfl, rfl⟩ <;> cases hk <;> cases h1 <;> first | (cases hq; done) | skip
        · rename_i k2 m
          simp only [keyEq] at hq
          cases hkk : eqK k1 k2 with
          | false => rw [hkk] at hq; cases hq
          | true =>
            rw [hkk] at hq; injection hq with hq; subst hq
            have := eqK_iff.1 hkk; subst this
            simp [Instr.sameNow, eqI_eq]
        · simp only [keyEq] at hq; injection hq with hq; subst hq; rfl
        · simp only [keyEq] at hq; injection hq with hq; subst hq; rfl
      cases q with
      | true =>
        simp only at hf; injection hf with hf; subst hf
        exact ⟨some (i, e'.val), by simp [Instr.findNow, hsame], e'.val, rfl, h2, Nat.le_refl _, ek, by simp, hq⟩
      | false =>
        simp only at hf
        obtain ⟨r', e1, e2⟩ := ih (i + 1) ht hf
        refine ⟨r', by simp [Instr.findNow, hsame, e1], ?_⟩
        cases r with
        | none => exact e2
        | some r =>
          obtain ⟨j, v, b⟩ := r
          obtain ⟨v', a1, a2, a3, ek', a4, a5⟩ := e2
          refine ⟨v', a1, a2, by omega, ek', ?_, a5⟩
          rw [show j - i = (j - (i + 1)) + 1 by omega]; simpa using a4

theorem run_findK {kt : TypeId} {d : TypeDesc} {k : V} {k' : Value} {es : List (V × V × Nat)} {es' : Array MapEntry} {r : Option (Nat × V × Nat)} (hd : P.underlying kt = some d) (hk : VR φ k k')
    (h : (∃ ki k1 n, d = .int ki ∧ k = .int k1 n) ∨ (∃ s, d = .string ∧ k = .str s) ∨ (∃ b, d = .bool ∧ k = .bool b)) (hm : MR φ es es'.toList) (hf : findK k es 0 = some r) :
    ∃ r', (Instr.findKey kt k' es'.toList).run P w = .ok r' w ∧ (match r with
        | none => r' = none
        | some (j, v, b) => ∃ v', r' = some (j, v') ∧ VR φ v v' ∧ ∃ e, es[j]? = some (e, v, b) ∧ keyEq k e = some true) := by
  obtain ⟨r', e1, e2⟩ := findK_now hk h 0 hm hf
  refine ⟨r', by simp [Instr.findKey, run_und hd, e1], ?_⟩
  cases r with
  | none => exact e2
  | some r => obtain ⟨j, v, b⟩ := r; obtain ⟨v', a1, a2, a3, e, a4, a5⟩ := e2; exact ⟨v', a1, a2, e, by simpa using a4, a5⟩

theorem run_lookV {t : TypeId} {k : V} {k' x' : Value} {es : List (V × V × Nat)} {es' : Array MapEntry} {ok : Bool} {v : V} (hx : x' = .map none ∧ es' = #[] ∨ ∃ r clock, x' = .map (some r) ∧ w.heap[r]? = some (.map es' clock))
    (hk : VR φ k k') (hm : MR φ es es'.toList) (hv : lookV P t es k ok = some v) :
    ∃ v', (Instr.lookup t x' k' ok).run P w = .ok v' w ∧ VR φ v v' := by
  unfold lookV at hv
  split at hv
  · rename_i hok
    obtain ⟨kt, e, d, hu, hd, hkind⟩ := okKey_spec hok
    have hck : (Instr.checkKey es'.isEmpty 10000 kt k').run P w = .ok () w := run_key hd hk hkind _ 9999
    cases hf : findK k es 0 with
    | none => rw [hf] at hv; cases hv
    | some r =>
      rw [hf] at hv
      obtain ⟨r', h1, h2⟩ := run_findK (P := P) (w := w) hd hk hkind hm hf
      have e0 : (Instr.lookup t x' k' ok).run P w = (match r' with
          | some (_, v) => (.ok (if ok then .tuple #[v, .bool true] else v) w : Result Value)
          | none => ((zeroValue e).run P w).andThen fun v w => .ok (if ok then .tuple #[v, .bool false] else v) w) := by
        rcases hx with ⟨rfl, rfl⟩ | ⟨r, clock, rfl, hr⟩
        · simp only [Instr.lookup, Sem.run_bind, run_und hu, Result.andThen_ok, Sem.run_pure, hck, h1]
          cases r' with
          | none =>
            simp only [Sem.run_bind, Sem.run_pure]
            cases (zeroValue e).run P w <;> rfl
          | some p => obtain ⟨j, v⟩ := p; rfl
        · have hg : (getObj r).run P w = .ok (.map es' clock) w := by simp [getObj, Sem.run, hr]
          simp only [Instr.lookup, Sem.run_bind, run_und hu, Result.andThen_ok, Sem.run_pure, hg, hck, h1]
          cases r' with
          | none =>
            simp only [Sem.run_bind, Sem.run_pure]
            cases (zeroValue e).run P w <;> rfl
          | some p => obtain ⟨j, v⟩ := p; rfl
      rw [e0]
      cases r with
      | none =>
        simp only at h2; subst h2
        simp only at hv ⊢
        have he : mapElemT P t = some e := by simp [mapElemT, hu]
        rw [he] at hv
        simp only at hv
        cases hz : zeroT P e with
        | none => rw [hz] at hv; cases hv
        | some z =>
          rw [hz] at hv; injection hv with hv; subst hv
          obtain ⟨z', hz1, hz2⟩ := run_zero (w := w) hz
          rw [hz1]
          refine ⟨_, rfl, ?_⟩
          cases ok with
          | false => exact hz2 φ
          | true => exact .tup (.cons (hz2 φ) (.cons (.bool false) .nil))
      | some r =>
        obtain ⟨j, u, b⟩ := r
        obtain ⟨u', a1, a2, _⟩ := h2
        subst a1
        injection hv with hv; subst hv
        refine ⟨_, rfl, ?_⟩
        cases ok with
        | false => exact a2
        | true => exact .tup (.cons a2 (.cons (.bool true) .nil))
  · cases hv

/-! ### bytes -/

theorem bytesOf_spec : ∀ {m : List V} {bs : List UInt8}, bytesOf m = some bs → ∃ ns : List Int, bs = ns.map (fun n => UInt8.ofNat n.toNat) ∧ ∀ {φ : Map} {l' : List Value}, VRs φ m l' → l' = ns.map (Value.int .u8)
  | [], bs, h => by simp only [bytesOf] at h; injection h with h; subst h; exact ⟨[], rfl, fun h => by cases h; rfl⟩
  | v :: m, bs, h => by
    cases v <;> first | (simp [bytesOf] at h; done) | skip
    rename_i k n
    cases k <;> first | (simp [bytesOf] at h; done) | skip
    simp only [bytesOf] at h
    cases hb : bytesOf m with
    | none => rw [hb] at h; cases h
    | some l =>
      rw [hb] at h; injection h with h; subst h
      obtain ⟨ns, e1, e2⟩ := bytesOf_spec hb
      refine ⟨n :: ns, by rw [e1]; rfl, fun h => ?_⟩
      cases h with
      | cons h t => cases h; rw [e2 t]; rfl

theorem fold_push (f : Int → UInt8) : ∀ (ns : List Int) (a : List UInt8), ns.foldl (fun (r : ByteArray) n => r.push (f n)) ⟨⟨a⟩⟩ = ⟨⟨a ++ ns.map f⟩⟩
  | [], a => by simp
  | n :: ns, a => by
    rw [List.foldl_cons]
    have : (ByteArray.push ⟨⟨a⟩⟩ (f n)) = ⟨⟨a ++ [f n]⟩⟩ := by
      show ByteArray.mk (Array.push ⟨a⟩ (f n)) = _
      simp
    rw [this, fold_push f ns]; simp

theorem run_bytes (h : HR φ s w) {i b N : Nat} {t : Tr V} {n len off cap : Nat} {m : List V} {bs : List UInt8} (hi : φ i = some (b, N)) (hs : s.get i = some (.cells t n)) (hm : t.getN len off = some m) (hb : bytesOf m = some bs) :
    (Conv.bytesToString (.slice (some ⟨b, off, none⟩) len cap)).run P w = .ok (.string ⟨⟨bs⟩⟩) w := by
  obtain ⟨l', h1, h2⟩ := run_getN (P := P) h hi hs hm
  obtain ⟨ns, e1, e2⟩ := bytesOf_spec hb
  have := e2 h2
  subst this
  rw [run_bytesToString w _ len cap ns h1]
  have := fold_push (fun n => UInt8.ofNat n.toNat) ns []
  rw [show (ByteArray.empty) = (⟨⟨[]⟩⟩ : ByteArray) from rfl, this, e1]
  rfl

theorem cl_read_convert {s d : TypeId} {x : Operand} {f : ReadF} (h : convCl s d x P = .read f) : f = rStr s d x ∨ ∃ t, f = rUnsafe t x ∧ P.underlying d = some .unsafePointer ∧ P.underlying s = some (.pointer t) := by
  unfold convCl at h
  split at h
  · split at h <;> cases h
  · split at h <;> cases h
  · split at h
    · injection h with h; exact .inl h.symm
    · cases h
    · cases h
  · rename_i hd
    split at h
    · rename_i t hs; injection h with h; exact .inr ⟨t, h.symm, hd, hs⟩
    · cases h
  · cases h

theorem run_unsafe (h : HR φ s w) {i b N n off k : Nat} {t : Tr V} {sr d pt : TypeId} (hd : P.underlying d = some .unsafePointer) (hs : P.underlying sr = some (.pointer pt)) (hi : φ i = some (b, N)) (hg : s.get i = some (.cells t n)) (hoff : off < n) (hz : sizeT P pt = some k) (hk : 1 ≤ k) :
    (convert sr d (.pointer (some ⟨b, off, none⟩))).run P w = .ok (.pointer (some ⟨b, off, none⟩)) w := by
  obtain ⟨c, ty, fz, hc, hN, hn, _, _, _⟩ := h.cells hi hg
  have hsh : w.shape? b = some (ty, c.size) := by simp [World.shape?, hc]
  have hoc : ¬ (off ≥ c.size) := by omega
  have hk0 : ¬ k = 0 := by omega
  simp only [convert, Sem.run_bind, run_und hs, run_und hd, Result.andThen_ok, Conv.unsafePointer, Conv.seenAt, viewAt, cellsIn, run_shape, hsh, Option.isSome_some, if_true, Sem.run_pure, run_size hz, hoc, hk0, decide_false, Bool.false_and, Bool.or_false, Bool.false_eq_true, if_false]

/-- an operation that reads -/
theorem read_sound {o : Oper} {f : ReadF} {v : V} (hc : cl o.op P = .read f) (hk : ∀ x ∈ o.op.operands.toList, Kn φ ρ ρc x) (h : HR φ s w) (hv : f P ρ s = some v) :
    ∃ v', (execOp ρc o).run P w = .ok (.value v') w ∧ VR φ v v' := by
  obtain ⟨dst, op, ty, pos, after, guard⟩ := o
  simp only at hc hk
  cases op <;> simp only [cl] at hc
  case load t x =>
    injection hc with hc; subst hc
    unfold rLoad at hv
    cases hx : ρ x with
    | none => rw [hx] at hv; cases hv
    | some u =>
      have hu := hk x (by simp [Op.operands]) u hx
      rw [hx] at hv
      generalize hg : ρc x = xc at hu
      cases u <;> first | (cases hv; done) | skip
      rename_i i off
      simp only at hv
      cases hu with
      | @ptr _ b N _ hφ =>
      cases hs : s.get i with
      | none => rw [hs] at hv; cases hv
      | some ob =>
        rw [hs] at hv
        cases ob <;> first | (cases hv; done) | skip
        obtain ⟨v', h1, h2⟩ := run_loadV (P := P) h hφ hs hv
        refine of_run ⟨v', ?_, h2⟩
        simp only [hg, Instr.loadAt, Instr.sureAddr, Sem.run_bind, Sem.run_pure, Result.andThen_ok, h1]
  case lookup t x k ok =>
    injection hc with hc; subst hc
    unfold rLook at hv
    cases hx : ρ x with
    | none => rw [hx] at hv; cases hv
    | some u =>
      have hu := hk x (by simp [Op.operands]) u hx
      rw [hx] at hv
      generalize hg : ρc x = xc at hu
      cases u <;> first | (cases hv; done) | skip
      case map0 =>
        simp only at hv
        cases hkk : ρ k with
        | none => rw [hkk] at hv; cases hv
        | some kv =>
          rw [hkk] at hv
          have hkv := hk k (by simp [Op.operands]) kv hkk
          cases hu
          have := run_lookV (P := P) (w := w) (.inl ⟨rfl, rfl⟩) hkv (es' := #[]) .nil hv
          refine of_run ?_
          rw [hg]; exact this
      case map i =>
        simp only at hv
        cases hkk : ρ k with
        | none => rw [hkk] at hv; cases hv
        | some kv =>
          rw [hkk] at hv
          simp only at hv
          have hkv := hk k (by simp [Op.operands]) kv hkk
          cases hu with
          | @map _ b N hφ =>
          cases hs : s.get i with
          | none => rw [hs] at hv; cases hv
          | some ob =>
            rw [hs] at hv
            cases ob <;> first | (cases hv; done) | skip
            rename_i es clock
            obtain ⟨es', e1, e2⟩ := h.map hφ hs
            have := run_lookV (P := P) (w := w) (.inr ⟨b, clock, rfl, e1⟩) hkv e2 hv
            refine of_run ?_
            rw [hg]; exact this
  case convert sr d x =>
    rcases cl_read_convert hc with this | ⟨pt, this, hud, hus⟩
    rotate_left
    · subst this
      unfold rUnsafe at hv
      cases hx : ρ x with
      | none => rw [hx] at hv; cases hv
      | some u =>
        have hu := hk x (by simp [Op.operands]) u hx
        rw [hx] at hv
        generalize hg : ρc x = xc at hu
        cases u <;> first | (cases hv; done) | skip
        rename_i i off
        simp only at hv
        cases hsi : s.get i with
        | none => rw [hsi] at hv; cases hv
        | some ob =>
          rw [hsi] at hv
          cases ob <;> first | (cases hv; done) | skip
          rename_i t n
          simp only at hv
          split at hv
          · rename_i hlt
            cases hz : sizeT P pt with
            | none => rw [hz] at hv; cases hv
            | some k =>
              rw [hz] at hv; simp only at hv
              split at hv
              · rename_i hk1
                injection hv with hv; subst hv
                cases hu with
                | @ptr _ b N _ hφ =>
                refine of_run ⟨_, ?_, .ptr _ hφ⟩
                rw [hg]
                exact run_unsafe h hud hus hφ hsi (Nat.le_of_ble_eq_true hlt) hz (Nat.le_of_ble_eq_true hk1)
              · cases hv
          · cases hv
    subst this
    unfold rStr at hv
    split at hv
    · rename_i hd
      split at hv
      · rename_i e hs
        split at hv
        · rename_i he
          cases hx : ρ x with
          | none => rw [hx] at hv; cases hv
          | some u =>
            have hu := hk x (by simp [Op.operands]) u hx
            rw [hx] at hv
            generalize hg : ρc x = xc at hu
            cases u <;> first | (cases hv; done) | skip
            case sl0 =>
              cases hu; injection hv with hv; subst hv
              refine of_run ⟨.string .empty, ?_, .str _⟩
              rw [hg, run_convert_bytes_string w _ _ _ _ _ _ hs he hd]; rfl
            case slE =>
              cases hu; injection hv with hv; subst hv
              refine of_run ⟨.string .empty, ?_, .str _⟩
              rw [hg, run_convert_bytes_string w _ _ _ _ _ _ hs he hd]; rfl
            case sl i off len cap es =>
              simp only at hv
              have : ∃ b N c, xc = .slice (some ⟨b, off, none⟩) len c ∧ φ i = some (b, N) := by
                cases hu with
                | slx _ _ _ hφ => exact ⟨_, _, _, rfl, hφ⟩
                | sls _ _ _ _ _ hφ _ _ => exact ⟨_, _, _, rfl, hφ⟩
              obtain ⟨b, N, c, ea, hφ⟩ := this
              subst ea
              cases hsi : s.get i with
              | none => rw [hsi] at hv; cases hv
              | some ob =>
                rw [hsi] at hv
                cases ob <;> first | (cases hv; done) | skip
                rename_i t n
                simp only at hv
                cases hm : t.getN len off with
                | none => rw [hm] at hv; cases hv
                | some m =>
                  rw [hm] at hv; simp only at hv
                  cases hb : bytesOf m with
                  | none => rw [hb] at hv; cases hv
                  | some bs =>
                    rw [hb] at hv; injection hv with hv; subst hv
                    refine of_run ⟨.string ⟨⟨bs⟩⟩, ?_, .str _⟩
                    rw [hg, run_convert_bytes_string w _ _ _ _ _ _ hs he hd]
                    exact run_bytes h hφ hsi hm hb
        · cases hv
      · cases hv
    · cases hv
  case call c =>
    unfold callCl at hc
    split at hc
    · rename_i bi hb
      cases bi <;> simp only [builtinCl] at hc <;> first | (cases hc; done) | skip
      unfold lenCl at hc
      split at hc
      · split at hc
        · injection hc with hc; subst hc
          unfold rLen at hv
          split at hv
          · rename_i x hxs
            split at hv
            · rename_i t' ts' hts
              split at hv
              · rename_i kt e hu
                have e1 : c.argTypes[0]? = some t' := by rw [← Array.getElem?_toList, hts]; rfl
                have e2 : c.args.map ρc = #[ρc x] := by apply Array.ext'; simp [hxs]
                have key : ∀ {v'}, (Builtin.len_ c.argTypes ty #[ρc x]).run P w = .ok v' w → (execOp ρc ⟨dst, .call c, ty, pos, after, guard⟩).run P w = .ok (.value v') w := by
                  intro v' h1
                  simp only [execOp, resolve, hb, Sem.run_bind, Sem.run_pure, Result.andThen_ok, invoke, builtin, e2, h1]
                cases hx : ρ x with
                | none => rw [hx] at hv; cases hv
                | some u =>
                  have hu' := hk x (by simp [Op.operands, Call.operands, hb, hxs]) u hx
                  rw [hx] at hv
                  generalize hg : ρc x = xc at hu' key
                  cases u <;> first | (cases hv; done) | skip
                  case map0 =>
                    cases hu'; injection hv with hv; subst hv
                    exact ⟨goInt 0, key (by simp [Builtin.len_, e1, run_und hu]), .int _ _⟩
                  case map i =>
                    simp only at hv
                    cases hu' with
                    | @map _ b N hφ =>
                    cases hs : s.get i with
                    | none => rw [hs] at hv; cases hv
                    | some ob =>
                      rw [hs] at hv
                      cases ob <;> first | (cases hv; done) | skip
                      rename_i es clock
                      injection hv with hv; subst hv
                      obtain ⟨es', h1, h2⟩ := h.map hφ hs
                      have hlen : es'.size = es.length := by
                        have : ∀ {l : List (V × V × Nat)} {l' : List MapEntry}, MR φ l l' → l'.length = l.length := by
                          intro l l' h; induction h with
                          | nil => rfl
                          | cons _ _ _ _ ih => simp [ih]
                        simpa using this h2
                      have hgo : (getObj b).run P w = .ok (.map es' clock) w := by simp [getObj, Sem.run, h1]
                      refine ⟨goInt es'.size, key (by simp [Builtin.len_, e1, run_und hu, hgo]), ?_⟩
                      rw [hlen]; exact .int _ _
              · cases hv
            · cases hv
          · cases hv
        · cases hc
      · cases hc
    · cases hc
    · cases hc
  case defer c => unfold deferCl at hc; split at hc <;> cases hc
  all_goals (cases hc)

end Go.AM

namespace Go.AM

variable {P : Program} {φ : Map} {ρ : Rho} {ρc : Operand → Value} {w : World} {s : St}

/-- what no operation here turns -/
structure Calm (w w' : World) : Prop where
  tape : w'.tape = w.tape
  os : w'.os = w.os
  output : w'.output = w.output

theorem Calm.refl (w : World) : Calm w w := ⟨rfl, rfl, rfl⟩
theorem Calm.trans {w w' w'' : World} (h : Calm w w') (h' : Calm w' w'') : Calm w w'' := ⟨h'.tape.trans h.tape, h'.os.trans h.os, h'.output.trans h.output⟩

theorem newC_OR {l : List V} {c : Array Value} {o : O} (ty : TypeId) (fz : Nat × Nat) (hf : ∀ x, x < c.size → ¬ (fz.1 ≤ x ∧ x < fz.2)) (hz : fz.1 = fz.2 ∨ c.size ≤ fz.1)
    (hl : ∃ l', VRs φ l l' ∧ ∃ r, c.toList = l' ++ r) (h : newC l = some o) : OR φ c.size o (.cells c ty fz) := by
  obtain ⟨l', hl, r, hc⟩ := hl
  unfold newC at h
  split at h
  · cases ht : Tr.ofL l with
    | none => rw [ht] at h; cases h
    | some t =>
      rw [ht] at h; injection h with h; subst h
      have hp := putN_spec l .e t 0 ht
      have hsz : l.length ≤ c.size := by
        have := congrArg List.length hc
        simp [hl.length] at this
        omega
      refine .cells rfl hsz (fun j v hj => ?_) hf hz
      rw [hp j] at hj
      split at hj
      · rename_i hr
        rw [Nat.sub_zero] at hj
        obtain ⟨v', e1, e2⟩ := hl.get hj
        refine ⟨v', ?_, e2⟩
        rw [← Array.getElem?_toList, hc, List.getElem?_append_left (by rw [hl.length]; omega)]
        exact e1
      · rw [get_e] at hj; cases hj
  · cases h

theorem zeros_length (z : List V) : ∀ n, (zeros z n).length = n * z.length
  | 0 => by show ([] : List V).length = 0 * z.length; simp
  | n + 1 => by
    have : zeros z (n + 1) = z ++ zeros z n := rfl
    rw [this, List.length_append, zeros_length z n, Nat.add_mul]; omega

theorem zeros_get (z : List V) : ∀ (n j : Nat), j < n * z.length → (zeros z n)[j]? = z[j % z.length]?
  | 0, j, h => by simp at h
  | n + 1, j, h => by
    have : zeros z (n + 1) = z ++ zeros z n := rfl
    rw [this]
    by_cases hj : j < z.length
    · rw [List.getElem?_append_left hj, Nat.mod_eq_of_lt hj]
    · rw [List.getElem?_append_right (by omega), zeros_get z n (j - z.length) (by rw [Nat.add_mul] at h; omega)]
      rw [Nat.mod_eq_sub_mod (by omega : z.length ≤ j)]

theorem zeros_VRs {z : List V} {z' : Array Value} (h : VRs φ z z'.toList) (n : Nat) : VRs φ (zeros z n) ((Array.range (n * z.length)).map fun i => z'[i % z'.size]!).toList := by
  have hs : z'.size = z.length := by have := h.length; simpa using this
  refine VRs.of_get (by simp [zeros_length]) fun j v hj => ?_
  have hlt : j < n * z.length := by rw [← zeros_length]; exact (List.getElem?_eq_some_iff.1 hj).1
  rw [zeros_get z n j hlt] at hj
  obtain ⟨v', e1, e2⟩ := h.get hj
  refine ⟨v', ?_, e2⟩
  have e1' : z'[j % z.length]? = some v' := by rw [← Array.getElem?_toList]; exact e1
  simp [hlt, hs, getElem!_def, e1']

/-- the world behind a new block -/
def Laid (φ : Map) (P : Program) (w : World) (o : O) (l : Lead) (s : Sem Value) : Prop :=
  ∃ N obj v' w', s.run P w = .ok v' w' ∧ w'.heap = w.heap.push obj ∧ Calm w w' ∧ OR φ N o obj ∧ ∀ φ' i, φ' i = some (w.heap.size, N) → VR φ' (l.at i) v'

theorem laid_row {l : List V} {o : O} {ld : Lead} {ty : TypeId} {c : Array Value} {s : Sem Value} {v' : Value}
    (hs : s.run P w = .ok v' { w with heap := w.heap.push (.cells c ty (0, 0)) }) (hl : VRs φ l c.toList) (h : newC l = some o)
    (hv : ∀ φ' i, φ' i = some (w.heap.size, c.size) → VR φ' (ld.at i) v') : Laid φ P w o ld s :=
  ⟨c.size, .cells c ty (0, 0), v', _, hs, rfl, ⟨rfl, rfl, rfl⟩, newC_OR ty _ (fun x _ hx => by omega) (.inl rfl) ⟨_, hl, [], by simp⟩ h, hv⟩

theorem aWith_spec {l : Lead} {x : Option O} {r : O × Lead} (h : aWith l x = some r) : ∃ o, x = some o ∧ r = (o, l) := by
  cases x with
  | none => cases h
  | some o => exact ⟨o, rfl, by injection h with h; exact h.symm⟩

theorem sliceElemT_spec {t e : TypeId} (h : sliceElemT P t = some e) : P.underlying t = some (.slice e) := by
  unfold sliceElemT at h
  split at h
  · rename_i hu; injection h with h; subst h; exact hu
  · cases h

theorem laid_alloc {t : TypeId} {o : O} {l : Lead} (h : aAlloc t P ρ = some (o, l)) : Laid φ P w o l (Instr.alloc t true (.tuple #[])) := by
  unfold aAlloc at h
  cases hz : zeroCellsT P t with
  | none => rw [hz] at h; cases h
  | some z =>
    rw [hz] at h
    obtain ⟨o', h1, h2⟩ := aWith_spec h
    injection h2 with h2 h3; subst h2; subst h3
    obtain ⟨z', e1, e2⟩ := run_zeroCells (w := w) hz
    exact laid_row (ty := t) (v' := .pointer (some ⟨w.heap.size, 0, none⟩)) (by simp only [Instr.alloc, Sem.run_bind, e1, Result.andThen_ok, newVar, newRow, run_newObj, Sem.run_pure]) (e2 φ) h1 fun φ' i hi => .ptr 0 hi

theorem laid_box {t : TypeId} {x : Operand} {o : O} {l : Lead} (hk : Kn φ ρ ρc x) (h : aBox x P ρ = some (o, l)) : Laid φ P w o l (Instr.box t (ρc x)) := by
  unfold aBox at h
  cases hx : ρ x with
  | none => rw [hx] at h; cases h
  | some v =>
    rw [hx] at h
    obtain ⟨o', h1, h2⟩ := aWith_spec h
    injection h2 with h2 h3; subst h2; subst h3
    exact laid_row (ty := t) (v' := .pointer (some ⟨w.heap.size, 0, none⟩)) (by simp only [Instr.box, Sem.run_bind, Result.andThen_ok, newVar, newRow, run_newObj, Sem.run_pure]) (cells_VRs (hk v hx)) h1 fun φ' i hi => .ptr 0 hi

theorem laid_build {t : TypeId} {len : Nat} {parts : Array (Nat × Operand)} {o : O} {l : Lead} (hk : ∀ p ∈ parts.toList, Kn φ ρ ρc p.2) (h : aBuild t len parts P ρ = some (o, l)) :
    Laid φ P w o l (Instr.buildSlice t len (parts.map fun p => (p.1, ρc p.2))) := by
  unfold aBuild at h
  cases he : sliceElemT P t with
  | none => rw [he] at h; cases h
  | some e =>
    rw [he] at h; simp only at h
    have hu := sliceElemT_spec he
    cases hs : sizeT P e with
    | none => rw [hs] at h; cases h
    | some size =>
      rw [hs] at h; simp only at h
      cases hz : zeroCellsT P e with
      | none => rw [hz] at h; cases h
      | some z =>
        rw [hz] at h; simp only at h
        cases hp : partsR ρ parts.toList with
        | none => rw [hp] at h; cases h
        | some ps =>
          rw [hp] at h; simp only at h
          split at h
          · cases h
          · rename_i hn
            have hn1 : ¬ len * size > 2 ^ 24 := fun hh => hn (.inl hh)
            have hn2 : z.length = size := Classical.byContradiction fun hh => hn (.inr hh)
            cases hf : fillV (fun i => some (i * size, size)) (zeros z len) ps with
            | none => rw [hf] at h; cases h
            | some lst =>
              rw [hf] at h
              obtain ⟨o', h1, h2⟩ := aWith_spec h
              injection h2 with h2 h3; subst h2; subst h3
              have hP : PR φ ps (parts.map fun p => (p.1, ρc p.2)).toList := by
                rw [Array.toList_map]; exact partsR_PR hk hp
              obtain ⟨z', e1, e2⟩ := run_zeroCells (w := w) hz
              have fin : ∀ za : Array Value, VRs φ (zeros z len) ((Array.range (len * size)).map fun i => za[i % za.size]!).toList →
                  (∀ ls, Instr.fill (fun i => some (i * size, size)) ((Array.range (len * size)).map fun i => za[i % za.size]!) (parts.map fun p => (p.1, ρc p.2)).toList = some ls →
                    (Instr.buildSlice t len (parts.map fun p => (p.1, ρc p.2))).run P w = .ok (.slice (some ⟨w.heap.size, 0, none⟩) len len) { w with heap := w.heap.push (.cells ls e (0, 0)) }) →
                  Laid φ P w o (.sl len len 0) (Instr.buildSlice t len (parts.map fun p => (p.1, ρc p.2))) := by
                intro za hz2 hr
                obtain ⟨ls, f1, f2⟩ := fill_sound _ hP hz2 hf
                exact laid_row (hr ls f1) f2 h1 fun φ' i hi => .slx 0 len len hi
              by_cases h0 : len * size = 0
              · refine fin #[] ?_ fun ls f1 => ?_
                · have : zeros z len = [] := List.eq_nil_of_length_eq_zero (by rw [zeros_length, hn2]; exact h0)
                  rw [this, h0]; simp; exact .nil
                · simp only [Instr.buildSlice, Sem.run_bind, run_und hu, run_size hs, Result.andThen_ok, if_neg hn1, if_pos h0, Sem.run_pure]
                  rw [f1]
                  simp only [Sem.run_bind, newRow, run_newObj, Result.andThen_ok, Sem.run_pure]
              · refine fin z'.cells ?_ fun ls f1 => ?_
                · have := zeros_VRs (e2 φ) len
                  rw [hn2] at this; exact this
                · simp only [Instr.buildSlice, Sem.run_bind, run_und hu, run_size hs, Result.andThen_ok, if_neg hn1, if_neg h0, e1, Sem.run_pure]
                  rw [f1]
                  simp only [Sem.run_bind, newRow, run_newObj, Result.andThen_ok, Sem.run_pure]

theorem wrap64_small {n : Nat} (h : n ≤ 1000000) : IntKind.i64.wrap (n : Int) = n := wrap_lim (k := .i64) (Nat.le_trans h (by decide))

theorem laid_make {t : TypeId} {x y : Operand} {o : O} {l : Lead} (hkx : Kn φ ρ ρc x) (hky : Kn φ ρ ρc y) (h : aMake t x y P ρ = some (o, l)) :
    Laid φ P w o l (Instr.makeSlice t (ρc x) (ρc y)) := by
  unfold aMake at h
  cases he : sliceElemT P t with
  | none => rw [he] at h; cases h
  | some e =>
    rw [he] at h; simp only at h
    have hu := sliceElemT_spec he
    cases hi : P.info? e with
    | none => rw [hi] at h; cases h
    | some inf =>
      rw [hi] at h; simp only at h
      cases hx : ρ x with
      | none => rw [hx] at h; cases h
      | some u =>
        rw [hx] at h
        have hux := hkx u hx
        cases u <;> first | (cases h; done) | skip
        rename_i k1 ln
        simp only at h
        cases hy : ρ y with
        | none => rw [hy] at h; cases h
        | some u =>
          rw [hy] at h
          have huy := hky u hy
          cases u <;> first | (cases h; done) | skip
          rename_i k2 cn
          cases ln <;> cases cn <;> first | (cases h; done) | skip
          rename_i ln cn
          simp only [natOf] at h
          split at h
          · rename_i hc
            obtain ⟨hc1, hc2, hc3⟩ := hc
            cases hz : zeroCellsT P e with
            | none => rw [hz] at h; cases h
            | some z =>
              rw [hz] at h; simp only at h
              split at h
              · rename_i hzl
                obtain ⟨o', h1, h2⟩ := aWith_spec h
                injection h2 with h2 h3; subst h2; subst h3
                obtain ⟨z', e1, e2⟩ := run_zeroCells (w := w) hz
                have hs : sizeT P e = some inf.size := by simp [sizeT, hi]
                generalize hgx : ρc x = xc at hux
                generalize hgy : ρc y = yc at huy
                cases hux; cases huy
                have w1 : IntKind.i64.wrap (Int.ofNat ln) = (ln : Int) := wrap64_small (Nat.le_trans hc1 hc3)
                have w2 : IntKind.i64.wrap (Int.ofNat cn) = (cn : Int) := wrap64_small hc3
                have big : ¬ ((inf.bytes : Int) * (cn : Int) > 2 ^ 48) := by
                  have : inf.bytes * cn ≤ 1000000 * 1000000 := Nat.mul_le_mul hc2 hc3
                  have h2 : ((inf.bytes * cn : Nat) : Int) ≤ ((1000000 * 1000000 : Nat) : Int) := Int.ofNat_le.2 this
                  rw [Int.natCast_mul] at h2
                  have h3 : ((1000000 * 1000000 : Nat) : Int) = 1000000000000 := by decide
                  have h4 : (2 ^ 48 : Int) = 281474976710656 := by decide
                  omega
                have ci : ¬ ((cn : Int) < 0) := by omega
                have li : ¬ ((ln : Int) < 0) := by omega
                have lc : ¬ ((ln : Int) > (cn : Int)) := by omega
                have ok : ¬ (((decide ((cn : Int) < 0) || decide ((inf.bytes : Int) * (cn : Int) > 2 ^ 48)) || decide ((ln : Int) < 0) || decide ((ln : Int) > (cn : Int))) = true) := by
                  simp only [decide_eq_false ci, decide_eq_false li, decide_eq_false lc, decide_eq_false big]; decide
                by_cases h0 : cn * inf.size = 0
                · refine laid_row (c := (Array.range (cn * inf.size)).map fun i => (#[] : Array Value)[i % (#[] : Array Value).size]!) (ty := e) (v' := .slice (some ⟨w.heap.size, 0, none⟩) ln cn) ?_ ?_ h1 fun φ' i hi => .slx 0 ln cn hi
                  · simp only [Instr.makeSlice, Sem.run_bind, run_und hu, Result.andThen_ok, asInt, asIntOf, Sem.run_pure, run_typeInfo' hi, w1, w2, if_neg ok, run_askRoom, run_size hs, Int.toNat_natCast, if_pos h0, newRow, run_newObj]
                  · have : zeros z cn = [] := List.eq_nil_of_length_eq_zero (by rw [zeros_length, hzl]; exact h0)
                    rw [this, h0]; simp; exact .nil
                · refine laid_row (c := (Array.range (cn * inf.size)).map fun i => z'.cells[i % z'.cells.size]!) (ty := e) (v' := .slice (some ⟨w.heap.size, 0, none⟩) ln cn) ?_ ?_ h1 fun φ' i hi => .slx 0 ln cn hi
                  · simp only [Instr.makeSlice, Sem.run_bind, run_und hu, Result.andThen_ok, asInt, asIntOf, Sem.run_pure, run_typeInfo' hi, w1, w2, if_neg ok, run_askRoom, run_size hs, Int.toNat_natCast, if_neg h0, e1, newRow, run_newObj]
                  · have := zeros_VRs (e2 φ) cn
                    rw [hzl] at this; exact this
              · cases h
          · cases h

theorem laid_map {t : TypeId} {r : Option Operand} {o : O} {l : Lead} (hk : ∀ x, r = some x → Kn φ ρ ρc x) (h : aMap t r P ρ = some (o, l)) : Laid φ P w o l (Instr.makeMap t (r.map ρc)) := by
  have key : ∀ {s : Sem Value}, s.run P w = .ok (.map (some w.heap.size)) { w with heap := w.heap.push (.map #[] 0) } → Laid φ P w (.map [] 0) .map s := fun hs =>
    ⟨0, .map #[] 0, _, _, hs, rfl, ⟨rfl, rfl, rfl⟩, .map .nil, fun φ' i hi => .map hi⟩
  cases r with
  | none =>
    simp only [aMap] at h; injection h with h; injection h with h1 h2; subst h1; subst h2
    exact key (by simp only [Instr.makeMap, Option.map_none, Sem.run_bind, run_newObj, Result.andThen_ok, Sem.run_pure])
  | some x =>
    simp only [aMap] at h
    split at h
    · rename_i kt e hu
      split at h
      · rename_i k n hx
        injection h with h; injection h with h1 h2; subst h1; subst h2
        have hv := hk x rfl _ hx
        refine key ?_
        generalize hg : ρc x = xc at hv
        cases hv
        simp only [Instr.makeMap, Option.map_some, hg, Sem.run_bind, run_und hu, Result.andThen_ok, asInt, asIntOf, Sem.run_pure, run_newObj]
      · cases h
    · cases h

/-! ### a row whose capacity is drawn -/

theorem modify_push {α : Type} (a : Array α) (x : α) (f : α → α) : (a.push x).modify a.size f = a.push (f x) := by
  apply Array.ext_getElem?
  intro i
  rw [Array.getElem?_modify, Array.getElem?_push, Array.getElem?_push]
  by_cases h : i = a.size
  · subst h; simp
  · rw [if_neg (fun e => h e.symm)]; simp [h]

theorem run_cap (need old : Nat) (e : TypeId) : ∃ cap, need ≤ cap ∧ (choose (.appendCap need old e)).run P w = .ok cap { w with drawn := w.drawn + 1 } := by
  refine ⟨need + (w.tape w.drawn (.appendCap need old e)) % (2 ^ 63 - need), Nat.le_add_right _ _, ?_⟩
  simp only [choose, Sem.run, Question.forced, Question.cut, Bool.false_eq_true, if_false]

theorem laid_bytes {sr d : TypeId} {x : Operand} {o : O} {l : Lead} (hsr : P.underlying sr = some .string) (hk : Kn φ ρ ρc x) (h : aBytes sr d x P ρ = some (o, l)) : Laid φ P w o l (convert sr d (ρc x)) := by
  unfold aBytes at h
  cases he : sliceElemT P d with
  | none => rw [he] at h; cases h
  | some e =>
    rw [he] at h; simp only at h
    have hu := sliceElemT_spec he
    split at h
    · rename_i hb
      cases hx : ρ x with
      | none => rw [hx] at h; cases h
      | some v =>
        rw [hx] at h
        have hv := hk v hx
        cases v <;> first | (cases h; done) | skip
        rename_i st
        simp only at h
        obtain ⟨o', h1, h2⟩ := aWith_spec h
        injection h2 with h2 h3; subst h2; subst h3
        generalize ρc x = xc at hv
        cases hv
        obtain ⟨cap, hc, hr⟩ := run_cap (P := P) (w := w) st.size 0 e
        let row : Array Value := (st.data.map fun b => Value.int .u8 b.toNat) ++ Array.replicate (cap - st.size) (.int .u8 0)
        have hrow : row.size = cap := by
          have : st.data.size = st.size := rfl
          simp [row]; omega
        have hst : (st.data.toList.map byteV).length = st.size := by simp
        refine ⟨cap, .cells row e (cap, cap + 1), .slice (some ⟨w.heap.size, 0, none⟩) st.size cap,
          { w with drawn := w.drawn + 1, heap := w.heap.push (.cells row e (cap, cap + 1)) }, ?_, rfl, ⟨rfl, rfl, rfl⟩, ?_, fun φ' i hi => .sls 0 _ _ _ _ hi hc (by omega)⟩
        · have e1 : (convert sr d (.string st)).run P w = (Conv.stringToBytes e st).run P w := by
            simp only [convert, Sem.run_bind, run_und hsr, run_und hu, run_und hb, Result.andThen_ok]
          rw [e1]
          simp only [Conv.stringToBytes, Sem.run_bind, hr, Result.andThen_ok, newRow, run_newObj, Sem.run_pure, markStringish, run_shape, World.shape?]
          have e2 : (w.heap.push (Obj.cells row e (0, 0)))[w.heap.size]? = some (Obj.cells row e (0, 0)) := by simp
          simp only [row] at e2
          simp only [e2, run_freeze, World.freeze]
          rw [if_neg (by decide)]
          simp only [Result.andThen_ok, Sem.run_pure]
          rw [modify_push]
          have hsz : (st.data.map fun b => Value.int .u8 b.toNat).size + (cap - st.size) = cap := by
            have : st.data.size = st.size := rfl
            simp; omega
          simp [row]
          rw [show st.size + (cap - st.size) = cap by omega]
        · have := newC_OR (φ := φ) (c := row) (l := st.data.toList.map byteV) e (cap, cap + 1) (fun x hx hh => by rw [hrow] at hx; exact absurd hh.1 (by omega)) (.inr (by rw [hrow]; exact Nat.le_refl _)) ⟨st.data.toList.map fun b => Value.int .u8 b.toNat, ?_, Array.toList (Array.replicate (cap - st.size) (.int .u8 0)), by simp [row]⟩ h1
          · rw [hrow] at this; exact this
          · refine VRs.of_get (by simp) fun j v hj => ?_
            simp only [List.getElem?_map] at hj ⊢
            cases hg : st.data.toList[j]? with
            | none => rw [hg] at hj; cases hj
            | some b => rw [hg] at hj; injection hj with hj; subst hj; exact ⟨_, rfl, .int _ _⟩
    · cases h

/-! ### all together -/

theorem of_laid {o : O} {l : Lead} {sm : Sem Value} (h : Laid φ P w o l sm) : ∃ N obj v' w', (do pure (Next.value (← sm)) : Sem Next).run P w = .ok (.value v') w' ∧ w'.heap = w.heap.push obj ∧ Calm w w' ∧ OR φ N o obj ∧
    ∀ φ' i, φ' i = some (w.heap.size, N) → VR φ' (l.at i) v' :=
  let ⟨N, obj, v', w', h1, h2⟩ := h; ⟨N, obj, v', w', by simp only [Sem.run_bind, h1, Result.andThen_ok, Sem.run_pure], h2⟩

theorem cl_alloc_convert {sr d : TypeId} {x : Operand} {f : AllocF} (h : convCl sr d x P = .alloc f) : f = aBytes sr d x ∧ P.underlying sr = some .string := by
  unfold convCl at h
  split at h
  · split at h <;> cases h
  · split at h
    · cases h
    · rename_i hs; injection h with h; exact ⟨h.symm, hs⟩
    · cases h
  · split at h <;> cases h
  · split at h <;> cases h
  · cases h

theorem lenCl_pr {ts : Array TypeId} {xs : Array Operand} : (∃ f, lenCl ts xs P = .read f) ∨ (∃ f, lenCl ts xs P = .pure f) ∨ lenCl ts xs P = .no := by
  unfold lenCl
  split
  · split
    · exact .inl ⟨_, rfl⟩
    · exact .inr (.inl ⟨_, rfl⟩)
  · exact .inr (.inr rfl)

theorem alloc_sound {o : Oper} {f : AllocF} {ob : O} {l : Lead} (hc : cl o.op P = .alloc f) (hk : ∀ x ∈ o.op.operands.toList, Kn φ ρ ρc x) (hv : f P ρ = some (ob, l)) :
    ∃ N obj v' w', (execOp ρc o).run P w = .ok (.value v') w' ∧ w'.heap = w.heap.push obj ∧ Calm w w' ∧ OR φ N ob obj ∧ ∀ φ' i, φ' i = some (w.heap.size, N) → VR φ' (l.at i) v' := by
  obtain ⟨dst, op, ty, pos, after, guard⟩ := o
  simp only at hc hk
  cases op <;> simp only [cl] at hc
  case alloc t => injection hc with hc; subst hc; exact of_laid (laid_alloc hv)
  case box t x => injection hc with hc; subst hc; exact of_laid (laid_box (hk x (by simp [Op.operands])) hv)
  case buildSlice t n ps =>
    injection hc with hc; subst hc
    exact of_laid (laid_build (fun p hp => hk p.2 (by simp [Op.operands]; exact ⟨p.1, by simpa using hp⟩)) hv)
  case makeSlice t a b => injection hc with hc; subst hc; exact of_laid (laid_make (hk a (by simp [Op.operands])) (hk b (by simp [Op.operands])) hv)
  case makeMap t r => injection hc with hc; subst hc; exact of_laid (laid_map (fun x hx => hk x (by subst hx; simp [Op.operands])) hv)
  case convert sr d x =>
    obtain ⟨e, hs⟩ := cl_alloc_convert hc
    subst e
    exact of_laid (laid_bytes hs (hk x (by simp [Op.operands])) hv)
  case call c =>
    unfold callCl at hc
    split at hc
    · rename_i bi hb
      cases bi <;> simp only [builtinCl] at hc <;> first | (cases hc; done) | skip
      rcases lenCl_pr (P := P) (ts := c.argTypes) (xs := c.args) with ⟨f, e⟩ | ⟨f, e⟩ | e <;> rw [e] at hc <;> cases hc
    · cases hc
    · cases hc
  case defer c => unfold deferCl at hc; split at hc <;> cases hc
  all_goals (cases hc)

end Go.AM

namespace Go.AM

variable {P : Program} {φ φ' : Map} {w w' : World} {s s' : St}

theorem put_get {i : Nat} {x : Option O} (h : s.put i x = some s') (j : Nat) : s'.get j = if j = i then x else s.get j := by
  obtain ⟨hp, n⟩ := s
  simp only [St.put] at h
  cases hs : hp.set i x with
  | none => rw [hs] at h; cases h
  | some hp' => rw [hs] at h; injection h with h; subst h; exact get_set hs j

theorem put_next {i : Nat} {x : Option O} (h : s.put i x = some s') : s'.next = s.next := by
  obtain ⟨hp, n⟩ := s
  simp only [St.put] at h
  cases hs : hp.set i x with
  | none => rw [hs] at h; cases h
  | some hp' => rw [hs] at h; injection h with h; subst h; rfl

theorem new_spec {o : O} {i : Nat} (h : s.new o = some (i, s')) : i = s.next ∧ s'.next = s.next + 1 ∧ ∀ j, s'.get j = if j = i then some o else s.get j := by
  obtain ⟨hp, n⟩ := s
  simp only [St.new] at h
  cases hs : hp.set n (some o) with
  | none => rw [hs] at h; cases h
  | some hp' => rw [hs] at h; injection h with h; injection h with h1 h2; subst h1; subst h2; exact ⟨rfl, rfl, fun j => get_set hs j⟩

/-- no object at or above the next number -/
def Wf (s : St) : Prop := ∀ i, s.next ≤ i → s.get i = none

theorem Wf.empty : Wf St.empty := fun _ _ => rfl

theorem Wf.put {i : Nat} {o : Option O} (h : Wf s) (hi : i < s.next) (hp : s.put i o = some s') : Wf s' := fun j hj => by
  rw [put_next hp] at hj
  rw [put_get hp, if_neg (by omega)]
  exact h j hj

theorem Wf.lt {i : Nat} {o : O} (h : Wf s) (hi : s.get i = some o) : i < s.next :=
  Nat.lt_of_not_le fun hh => by rw [h i hh] at hi; cases hi

theorem Wf.new {i : Nat} {o : O} (h : Wf s) (hp : s.new o = some (i, s')) : Wf s' := fun j hj => by
  obtain ⟨h1, h2, h3⟩ := new_spec hp
  rw [h2] at hj
  rw [h3, if_neg (by omega)]
  exact h j (by omega)

/-- all that a step that ends well does -/
structure Fine (φ : Map) (s : St) (w : World) (φ' : Map) (s' : St) (w' : World) : Prop where
  rel : HR φ' s' w'
  goes : Goes φ s w φ' s' w'
  calm : Calm w w'
  wf : Wf s'

theorem Goes.refl (φ : Map) (s : St) (w : World) : Goes φ s w φ s w :=
  ⟨fun _ _ => rfl, Nat.le_refl _, fun i b N h1 h2 _ => absurd (Nat.lt_of_le_of_lt h1 h2) (Nat.lt_irrefl _), fun _ _ h => h, fun _ _ _ => rfl, Nat.le_refl _⟩

theorem Fine.refl (h : HR φ s w) (hw : Wf s) : Fine φ s w φ s w := ⟨h, .refl _ _ _, .refl _, hw⟩

/-- numbers that a step gives are not given yet -/
def Free (φ : Map) (s s' : St) : Prop := ∀ i, s.next ≤ i → i < s'.next → φ i = none

theorem Goes.sub (h : Goes φ s w φ' s' w') (hf : Free φ s s') : Sub φ φ' := fun i x hi => by
  by_cases h1 : i < s.next
  · rw [h.old i (.inl h1)]; exact hi
  · by_cases h2 : s'.next ≤ i
    · rw [h.old i (.inr h2)]; exact hi
    · rw [hf i (by omega) (by omega)] at hi; cases hi

theorem Free.left {s1 : St} (hf : Free φ s s') (h : s1.next ≤ s'.next) : Free φ s s1 := fun i a b => hf i a (by omega)

theorem Goes.trans {φ1 φ2 : Map} {s1 s2 : St} {w1 w2 : World} (h : Goes φ s w φ1 s1 w1) (h' : Goes φ1 s1 w1 φ2 s2 w2) (hwf : Wf s1) : Goes φ s w φ2 s2 w2 where
  old i hi := by
    have a := h.next
    have b := h'.next
    rcases hi with hi | hi
    · rw [h'.old i (.inl (by omega)), h.old i (.inl hi)]
    · rw [h'.old i (.inr hi), h.old i (.inr (by omega))]
  next := Nat.le_trans h.next h'.next
  fresh i b N h1 h2 hi := by
    by_cases hlt : i < s1.next
    · rw [h'.old i (.inl hlt)] at hi
      exact h.fresh i b N h1 hlt hi
    · rcases h'.fresh i b N (by omega) h2 hi with hb | ⟨k, M, hk, hφ, hg⟩
      · exact .inl (Nat.le_trans h.size hb)
      · by_cases hks : k < s.next
        · refine .inr ⟨k, M, hks, ?_, fun e => hg (h.dead k hks e)⟩
          rw [h.old k (.inl hks)] at hφ; exact hφ
        · exact h.fresh k b M (by omega) hk hφ
  dead i hi hg := h'.dead i (Nat.lt_of_lt_of_le hi h.next) (h.dead i hi hg)
  keeps b hb hidle := by
    rw [h'.keeps b (Nat.lt_of_lt_of_le hb h.size) ?_, h.keeps b hb hidle]
    intro i N hφ
    by_cases hlt : i < s.next
    · rw [h.old i (.inl hlt)] at hφ
      exact h.dead i hlt (hidle i N hφ)
    · by_cases hlt1 : s1.next ≤ i
      · exact hwf i hlt1
      · rcases h.fresh i b N (by omega) (by omega) hφ with hb' | ⟨k, M, hk, hφk, hg⟩
        · omega
        · exact absurd (hidle k M hφk) hg
  size := Nat.le_trans h.size h'.size

theorem Fine.trans {φ1 φ2 : Map} {s1 s2 : St} {w1 w2 : World} (h : Fine φ s w φ1 s1 w1) (h' : Fine φ1 s1 w1 φ2 s2 w2) : Fine φ s w φ2 s2 w2 :=
  ⟨h'.rel, h.goes.trans h'.goes h.wf, h.calm.trans h'.calm, h'.wf⟩

/-- the numbers that the first of two steps leaves free -/
theorem Goes.free {s1 s2 : St} {φ1 : Map} {w1 : World} (h : Goes φ s w φ1 s1 w1) (hf : Free φ s s2) : Free φ1 s1 s2 := fun i a b => by
  rw [h.old i (.inr a)]; exact hf i (Nat.le_trans h.next a) b

/-- an object is put in another's place -/
theorem put_fine {i b N : Nat} {o o' : O} {c' : Obj} (h : HR φ s w) (hw : Wf s) (hi : φ i = some (b, N)) (hs : s.get i = some o) (hp : s.put i (some o') = some s')
    (hc : w'.heap[b]? = some c') (hr : OR φ N o' c') (hk : ∀ b', b' ≠ b → w'.heap[b']? = w.heap[b']?) (hz : w'.heap.size = w.heap.size) (hcalm : Calm w w') : Fine φ s w φ s' w' where
  rel := by
    refine ⟨fun j b' N' oj hj hg => ?_, fun j k b' M M' hj hk' hgj hgk => ?_⟩
    · rw [put_get hp] at hg
      by_cases e : j = i
      · subst e
        rw [if_pos rfl] at hg; injection hg with hg; subst hg
        rw [hi] at hj; injection hj with hj; injection hj with h1 h2; subst h1; subst h2
        exact ⟨c', hc, hr⟩
      · rw [if_neg e] at hg
        obtain ⟨c, h1, h2⟩ := h.obj j b' N' oj hj hg
        refine ⟨c, ?_, h2⟩
        rw [hk b' (fun eb => e (h.inj j i b N' N (eb ▸ hj) hi (by rw [hg]; simp) (by rw [hs]; simp)))]
        exact h1
    · have alive : ∀ k, s'.get k ≠ none → s.get k ≠ none := by
        intro k hk
        rw [put_get hp] at hk
        by_cases e : k = i
        · subst e; rw [hs]; simp
        · rw [if_neg e] at hk; exact hk
      exact h.inj j k b' M M' hj hk' (alive j hgj) (alive k hgk)
  goes := by
    refine ⟨fun _ _ => rfl, by rw [put_next hp]; exact Nat.le_refl _, fun j b N h1 h2 _ => ?_, fun j hj hg => ?_, fun b' hb hidle => ?_, by omega⟩
    · rw [put_next hp] at h2; omega
    · rw [put_get hp]
      by_cases e : j = i
      · subst e; rw [hs] at hg; cases hg
      · rw [if_neg e]; exact hg
    · refine hk b' fun e => ?_
      subst e
      have := hidle i N hi
      rw [hs] at this; cases this
  calm := hcalm
  wf := hw.put (hw.lt hs) hp

/-- the map with one number more -/
def Map.upd (φ : Map) (i : Nat) (x : Nat × Nat) : Map := fun j => if j = i then some x else φ j

theorem Map.upd_same (φ : Map) (i : Nat) (x : Nat × Nat) : φ.upd i x i = some x := by simp [Map.upd]

theorem Map.upd_sub {i : Nat} {x : Nat × Nat} (h : φ i = none) : Sub φ (φ.upd i x) := fun j y hj => by
  unfold Map.upd
  by_cases e : j = i
  · subst e; rw [h] at hj; cases hj
  · rw [if_neg e]; exact hj

/-- a new object in a new block -/
theorem new_fine {i N : Nat} {o : O} {c : Obj} (h : HR φ s w) (hw : Wf s) (hn : s.new o = some (i, s')) (hfree : φ s.next = none) (hc : w'.heap = w.heap.push c) (hr : OR φ N o c) (hcalm : Calm w w')
    (hlt : ∀ j b N, φ j = some (b, N) → s.get j ≠ none → b < w.heap.size) :
    Fine φ s w (φ.upd i (w.heap.size, N)) s' w' := by
  obtain ⟨h1, h2, h3⟩ := new_spec hn
  subst h1
  have hsub := Map.upd_sub (x := (w.heap.size, N)) hfree
  refine ⟨⟨fun j b M oj hj hg => ?_, fun j k b M M' hj hk hgj hgk => ?_⟩, ⟨fun j hj => ?_, by omega, fun j b M a1 a2 hj => ?_, fun j hj hg => ?_, fun b hb hidle => ?_, by rw [hc]; simp⟩, hcalm, hw.new hn⟩
  · rw [h3] at hg
    by_cases e : j = s.next
    · subst e
      rw [if_pos rfl] at hg; injection hg with hg; subst hg
      rw [Map.upd_same] at hj; injection hj with hj; injection hj with e1 e2; subst e1; subst e2
      exact ⟨c, by rw [hc]; simp, hr.mono hsub⟩
    · rw [if_neg e] at hg
      unfold Map.upd at hj
      rw [if_neg e] at hj
      obtain ⟨c', e1, e2⟩ := h.obj j b M oj hj hg
      refine ⟨c', ?_, e2.mono hsub⟩
      rw [hc, Array.getElem?_push, if_neg (by have := hlt j b M hj (by rw [hg]; simp); omega)]
      exact e1
  · rw [h3] at hgj hgk
    unfold Map.upd at hj hk
    by_cases ej : j = s.next
    · by_cases ek : k = s.next
      · rw [ej, ek]
      · rw [if_pos ej] at hj; rw [if_neg ek] at hk hgk
        injection hj with hj; injection hj with e1 e2
        have := hlt k b M' hk hgk
        omega
    · by_cases ek : k = s.next
      · rw [if_neg ej] at hj hgj; rw [if_pos ek] at hk
        injection hk with hk; injection hk with e1 e2
        have := hlt j b M hj hgj
        omega
      · rw [if_neg ej] at hj hgj; rw [if_neg ek] at hk hgk
        exact h.inj j k b M M' hj hk hgj hgk
  · unfold Map.upd
    rw [if_neg (by omega)]
  · have : j = s.next := by omega
    subst this
    rw [Map.upd_same] at hj; injection hj with hj; injection hj with e1 e2
    exact .inl (by omega)
  · rw [h3, if_neg (by omega)]; exact hg
  · rw [hc, Array.getElem?_push, if_neg (by omega)]

theorem HR.lt (h : HR φ s w) {i b N : Nat} (hi : φ i = some (b, N)) (hs : s.get i ≠ none) : b < w.heap.size := by
  cases hg : s.get i with
  | none => exact absurd hg hs
  | some o =>
    obtain ⟨c, h1, _⟩ := h.obj i b N o hi hg
    exact (Array.getElem?_eq_some_iff.1 h1).1

/-- an object goes -/
theorem kill_fine {i : Nat} (h : HR φ s w) (hw : Wf s) {o : O} (hs : s.get i = some o) (hp : s.put i none = some s') : HR φ s' w ∧ Wf s' ∧ s'.next = s.next ∧ (∀ j, s'.get j = if j = i then none else s.get j) := by
  refine ⟨⟨fun j b N oj hj hg => ?_, fun j k b M M' hj hk hgj hgk => ?_⟩, hw.put (hw.lt hs) hp, put_next hp, put_get hp⟩
  · rw [put_get hp] at hg
    by_cases e : j = i
    · rw [if_pos e] at hg; cases hg
    · rw [if_neg e] at hg; exact h.obj j b N oj hj hg
  · have alive : ∀ k, s'.get k ≠ none → s.get k ≠ none := by
      intro k hk
      rw [put_get hp] at hk
      by_cases e : k = i
      · rw [if_pos e] at hk; exact absurd rfl hk
      · rw [if_neg e] at hk; exact hk
    exact h.inj j k b M M' hj hk (alive j hgj) (alive k hgk)

end Go.AM
