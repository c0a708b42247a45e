/-
  Proves that the evaluator's operations that write do as the model's do, where abstract memory stands for the model's.
-/
import Derived.Test.YtdboceaccgiklaaGreatAmThree
import Derived.Laws.IdiomCopy
import Derived.Lib.Strings
import Derived.Laws.Append
set_option linter.all false
namespace Go.AM

variable {P : Program} {φ : Map} {ρ : Rho} {ρc : Operand → Value} {w : World} {s s' : St}

/-! ### cells that are written -/

theorem okCells_one : ∀ {l : List V} {l' : List Value}, okCells l = true → VRs φ l l' → ∀ v ∈ l', v.oneCell' = true
  | [], l', _, h => by cases h; intro v hv; cases hv
  | a :: l, l', ho, h => by
    cases h with
    | @cons _ a' _ l' h t =>
    simp only [okCells] at ho
    split at ho
    · rename_i h0
      intro v hv
      cases hv with
      | head => cases h <;> first | rfl | (cases h0; done)
      | tail _ hv => exact okCells_one ho t v hv
    · cases ho

theorem setCells_other (b : Nat) : ∀ (vs : List Value) (o : Nat) (w : World) (b' : Nat), b' ≠ b → (w.setCells b o vs).heap[b']? = w.heap[b']?
  | [], _, _, _, _ => rfl
  | v :: r, o, w, b', h => by
    rw [World.setCells, setCells_other b r (o + 1) _ b' h]
    simp only [World.setCell]
    rw [Array.getElem?_modify, if_neg (fun e => h e.symm)]

theorem setCells_at (b : Nat) : ∀ (vs : List Value) (o : Nat) (w : World) (c : Array Value) (ty : TypeId) (fz : Nat × Nat), w.heap[b]? = some (.cells c ty fz) → o + vs.length ≤ c.size →
    ∃ c', (w.setCells b o vs).heap[b]? = some (.cells c' ty fz) ∧ c'.size = c.size ∧ ∀ j, c'[j]? = if o ≤ j ∧ j < o + vs.length then vs[j - o]? else c[j]?
  | [], o, w, c, ty, fz, h, _ => ⟨c, h, rfl, fun j => by rw [if_neg (by simp only [List.length_nil]; omega)]⟩
  | v :: r, o, w, c, ty, fz, h, hl => by
    simp only [List.length_cons] at hl
    have h1 : (w.setCell ⟨b, o, none⟩ v).heap[b]? = some (.cells (c.setIfInBounds o v) ty fz) := by
      simp only [World.setCell]
      rw [Array.getElem?_modify, if_pos rfl, h]; simp
    obtain ⟨c', e1, e2, e3⟩ := setCells_at b r (o + 1) _ _ ty fz h1 (by simp; omega)
    refine ⟨c', e1, by simpa using e2, fun j => ?_⟩
    rw [e3 j]
    simp only [List.length_cons]
    by_cases hj : j = o
    · subst hj
      rw [if_neg (by omega), if_pos (by omega)]
      rw [Array.getElem?_setIfInBounds_self_of_lt (by omega)]
      simp
    · by_cases hr : o + 1 ≤ j ∧ j < o + 1 + r.length
      · rw [if_pos hr, if_pos (by omega), show j - o = (j - (o + 1)) + 1 by omega]; rfl
      · rw [if_neg hr, if_neg (by omega), Array.getElem?_setIfInBounds_ne (fun e => hj e.symm)]

theorem setCells_size (b : Nat) : ∀ (vs : List Value) (o : Nat) (w : World), (w.setCells b o vs).heap.size = w.heap.size
  | [], _, _ => rfl
  | v :: r, o, w => by rw [World.setCells, setCells_size b r (o + 1)]; exact World.size_setCell ..

theorem setCells_calm (b : Nat) : ∀ (vs : List Value) (o : Nat) (w : World), Calm w (w.setCells b o vs)
  | [], _, _ => ⟨rfl, rfl, rfl⟩
  | v :: r, o, w => (⟨rfl, rfl, rfl⟩ : Calm w (w.setCell ⟨b, o, none⟩ v)).trans (setCells_calm b r (o + 1) _)

theorem writeC_spec {t : Tr V} {n off : Nat} {l : List V} {o : O} (h : writeC t n off l = some o) :
    off + l.length ≤ n ∧ okCells l = true ∧ ∃ t', o = .cells t' n ∧ ∀ j, t'.get j = if off ≤ j ∧ j < off + l.length then l[j - off]? else t.get j := by
  unfold writeC at h
  split at h
  · rename_i h1
    split at h
    · rename_i h2
      cases hp : Tr.putN l t off with
      | none => rw [hp] at h; cases h
      | some t' => rw [hp] at h; injection h with h; subst h; exact ⟨Nat.le_of_ble_eq_true h1, h2, t', rfl, putN_spec l t t' off hp⟩
    · cases h
  · cases h

/-- the cells of a row of which part is written -/
theorem cells_written {N n off : Nat} {t t' : Tr V} {c c' : Array Value} {ty : TypeId} {fz : Nat × Nat} {l : List V} {l' : List Value} (hN : c.size = N) (hn : n ≤ N)
    (hcs : ∀ (j : Nat) (v : V), t.get j = some v → ∃ v', c[j]? = some v' ∧ VR φ v v') (hf : ∀ x, x < N → ¬ (fz.1 ≤ x ∧ x < fz.2)) (hz : fz.1 = fz.2 ∨ N ≤ fz.1)
    (hl : VRs φ l l') (ht : ∀ j, t'.get j = if off ≤ j ∧ j < off + l.length then l[j - off]? else t.get j) (hs : c'.size = c.size)
    (hc : ∀ j, c'[j]? = if off ≤ j ∧ j < off + l'.length then l'[j - off]? else c[j]?) : OR φ N (.cells t' n) (.cells c' ty fz) := by
  refine .cells (by omega) hn (fun j v hj => ?_) hf hz
  rw [ht] at hj
  rw [hc, hl.length]
  split
  · rename_i hr
    rw [if_pos hr] at hj
    exact hl.get hj
  · rename_i hr
    rw [if_neg hr] at hj
    exact hcs j v hj

theorem run_writeC (h : HR φ s w) (hw : Wf s) {i b N : Nat} {t : Tr V} {n off : Nat} {l : List V} {l' : List Value} {o : O} (hi : φ i = some (b, N)) (hs : s.get i = some (.cells t n))
    (ho : writeC t n off l = some o) (hl : VRs φ l l') (hp : s.put i (some o) = some s') :
    (storeCells ⟨b, off, none⟩ l').run P w = .ok () (w.setCells b off l') ∧ Fine φ s w φ s' (w.setCells b off l') := by
  obtain ⟨c, ty, fz, hc, hN, hn, hcs, hf, hz⟩ := h.cells hi hs
  obtain ⟨h1, h2, t', rfl, ht⟩ := writeC_spec ho
  have hlen := hl.length
  refine ⟨?_, ?_⟩
  · have := run_storeCells_cells (P := P) b off l' 0 w (fun j hj => ?_) (fun j hj => ?_) (okCells_one h2 hl)
    · simpa using this
    · rw [cell_at hc, Array.getElem?_eq_getElem (by omega)]; rfl
    · simp only [World.frozen?, hc]
      obtain ⟨f1, f2⟩ := fz
      have := hf (off + 0 + j) (by omega)
      simp only at this ⊢
      cases hd : decide (f1 ≤ off + 0 + j) <;> cases hd' : decide (off + 0 + j < f2) <;> first | rfl | skip
      exact absurd ⟨of_decide_eq_true hd, of_decide_eq_true hd'⟩ this
  · obtain ⟨c', e1, e2, e3⟩ := setCells_at b l' off w c ty fz hc (by omega)
    exact put_fine h hw hi hs hp e1 (cells_written hN hn hcs hf hz hl ht e2 e3) (fun b' hb => setCells_other b l' off w b' hb) (setCells_size b l' off w) (setCells_calm b l' off w)

/-- how an operation that writes ends -/
def Wrote (P : Program) (φ : Map) (s : St) (w : World) (sm : Sem Next) (v : V) (s' : St) : Prop :=
  ∃ φ' w' r v', sm.run P w = .ok r w' ∧ (r = .value v' ∨ r = .skip ∧ v' = Go.undef) ∧ VR φ' v v' ∧ Fine φ s w φ' s' w'

theorem wrote_value {sm : Sem Value} {v : V} {φ' : Map} {w' : World} {v' : Value} (h : sm.run P w = .ok v' w') (hv : VR φ' v v') (hf : Fine φ s w φ' s' w') : Wrote P φ s w (do pure (Next.value (← sm))) v s' :=
  ⟨φ', w', .value v', v', by simp only [Sem.run_bind, h, Result.andThen_ok, Sem.run_pure], .inl rfl, hv, hf⟩

theorem wrote_unit {sm : Sem Unit} {φ' : Map} {w' : World} (h : sm.run P w = .ok () w') (hf : Fine φ s w φ' s' w') : Wrote P φ s w (do sm; pure .skip) .undef s' :=
  ⟨φ', w', .skip, Go.undef, by simp only [Sem.run_bind, h, Result.andThen_ok, Sem.run_pure], .inr ⟨rfl, rfl⟩, VR.undef φ', hf⟩

theorem wPut_spec {v v' : V} {i : Nat} {o : Option O} (h : wPut v s i o = some (v', s')) : v' = v ∧ ∃ ob, o = some ob ∧ s.put i (some ob) = some s' := by
  unfold wPut at h
  cases o with
  | none => cases h
  | some ob =>
    simp only at h
    cases hp : s.put i (some ob) with
    | none => rw [hp] at h; cases h
    | some s1 => rw [hp] at h; simp only [wWith] at h; injection h with h; injection h with h1 h2; subst h1; subst h2; exact ⟨rfl, ob, rfl, hp⟩

theorem wrote_store (h : HR φ s w) (hw : Wf s) {t : TypeId} {x y : Operand} {v : V} (hx : Kn φ ρ ρc x) (hy : Kn φ ρ ρc y) (hv : wStore t x y P ρ s = some (v, s')) :
    Wrote P φ s w (do Instr.storeAt t (ρc x) (ρc y); pure .skip) v s' := by
  unfold wStore at hv
  cases hxx : ρ x with
  | none => rw [hxx] at hv; cases hv
  | some u =>
    rw [hxx] at hv
    have hu := hx u hxx
    cases u <;> first | (cases hv; done) | skip
    rename_i i off
    simp only at hv
    cases hyy : ρ y with
    | none => rw [hyy] at hv; cases hv
    | some u2 =>
      rw [hyy] at hv; simp only at hv
      have hu2 := hy u2 hyy
      cases hs : s.get i with
      | none => rw [hs] at hv; cases hv
      | some ob =>
        rw [hs] at hv
        cases ob <;> first | (cases hv; done) | skip
        rename_i tr n
        simp only at hv
        cases hz : sizeT P t with
        | none => rw [hz] at hv; cases hv
        | some k =>
          rw [hz] at hv; simp only at hv
          split at hv
          · rename_i hk
            have hk := Nat.eq_of_beq_eq_true hk
            obtain ⟨e, ob, ho, hp⟩ := wPut_spec hv
            subst e
            generalize ρc x = xc at hu
            cases hu with
            | @ptr _ b N _ hφ =>
            obtain ⟨h1, h2⟩ := run_writeC (P := P) h hw hφ hs ho (cells_VRs hu2) hp
            refine wrote_unit ?_ h2
            have hsz : (ρc y).cells.size = k := by have := (cells_VRs hu2).length; simp at this; omega
            simp only [Instr.storeAt, Instr.sureAddr, Sem.run_bind, Sem.run_pure, Result.andThen_ok, storeVar, run_size hz, hsz]
            rw [if_neg (by simp)]
            exact h1
          · cases hv

end Go.AM

namespace Go.AM

variable {P : Program} {φ : Map} {ρ : Rho} {ρc : Operand → Value} {w : World} {s s' : St}

/-! ### maps -/

theorem MR.set {l : List (V × V × Nat)} {l' : List MapEntry} (h : MR φ l l') : ∀ (j : Nat) {e v0 k v : V} {b : Nat} {k' v' : Value}, l[j]? = some (e, v0, b) → VR φ k k' → VR φ v v' →
    MR φ (l.set j (k, v, b)) (l'.modify j fun e => { e with key := k', val := v' }) := by
  induction h with
  | nil => intro j e v0 k v b k' v' hj _ _; simp at hj
  | @cons k0 v0 b0 e0 l l' hk0 hv0 hb0 t ih =>
    intro j e v1 k v b k' v' hj hk hv
    cases j with
    | zero =>
      simp at hj
      obtain ⟨_, _, rfl⟩ := hj
      simp
      exact .cons hk hv hb0 t
    | succ j =>
      simp at hj
      simp
      exact .cons hk0 hv0 hb0 (ih j hj hk hv)

theorem MR.erase {l : List (V × V × Nat)} {l' : List MapEntry} (h : MR φ l l') : ∀ (j : Nat), MR φ (l.eraseIdx j) (l'.eraseIdx j) := by
  induction h with
  | nil => intro j; simp; exact .nil
  | cons hk0 hv0 hb0 t ih =>
    intro j
    cases j with
    | zero => simpa using t
    | succ j => simp; exact .cons hk0 hv0 hb0 (ih j)

theorem MR.push {l : List (V × V × Nat)} {l' : List MapEntry} (h : MR φ l l') {k v : V} {k' v' : Value} (b : Nat) (hk : VR φ k k') (hv : VR φ v v') : MR φ (l ++ [(k, v, b)]) (l' ++ [{ key := k', val := v', born := b }]) := by
  induction h with
  | nil => exact .cons hk hv rfl .nil
  | cons hk0 hv0 hb0 t ih => exact .cons hk0 hv0 hb0 ih

theorem MR.length {l : List (V × V × Nat)} {l' : List MapEntry} (h : MR φ l l') : l'.length = l.length := by
  induction h with
  | nil => rfl
  | cons _ _ _ _ ih => simp [ih]

theorem MR.get {l : List (V × V × Nat)} {l' : List MapEntry} (h : MR φ l l') : ∀ {j : Nat} {k v : V} {b : Nat}, l[j]? = some (k, v, b) → ∃ e, l'[j]? = some e ∧ VR φ k e.key ∧ VR φ v e.val ∧ e.born = b := by
  induction h with
  | nil => intro j k v b h; simp at h
  | cons hk0 hv0 hb0 t ih =>
    intro j k v b h
    cases j with
    | zero => simp at h; obtain ⟨rfl, rfl, rfl⟩ := h; exact ⟨_, rfl, hk0, hv0, hb0⟩
    | succ j => exact ih (by simpa using h)

theorem sameBits_key {k e : V} {k' e' : Value} (hk : VR φ k k') (he : VR φ e e') (h : keyEq k e = some true) (n : Nat) : Instr.sameBits n e' k' = true := by
  cases hk <;> cases he <;> first | (cases h; done) | skip
  · simp only [keyEq] at h; injection h with h; rename_i b b'; cases n <;> simp [Instr.sameBits] <;> (have : b = b' := by simpa using h) <;> exact this.symm
  · rename_i k1 n1 k2 n2
    simp only [keyEq] at h
    cases hk : eqK k1 k2 with
    | false => rw [hk] at h; cases h
    | true =>
      rw [hk] at h; injection h with h
      have := eqK_iff.1 hk; subst this
      have hn : n1 = n2 := by rw [eqI_eq] at h; simpa using h
      subst hn
      cases n <;> simp [Instr.sameBits]
  · simp only [keyEq] at h; injection h with h
    rename_i s1 s2
    have : (s1.toList == s2.toList) = true := by rw [← beq_toListBytes]; exact h
    have h2 : s1.toList = s2.toList := by simpa using this
    have : (s2 == s1) = true := by rw [beq_toListBytes, h2]; simp
    cases n <;> simpa [Instr.sameBits] using this

theorem set_fine (h : HR φ s w) (hw : Wf s) {i b N : Nat} {o o' : O} {c' c : Obj} (hi : φ i = some (b, N)) (hs : s.get i = some o) (hc : w.heap[b]? = some c) (hp : s.put i (some o') = some s') (hr : OR φ N o' c') :
    Fine φ s w φ s' { w with heap := w.heap.setIfInBounds b c' } := by
  have hlt : b < w.heap.size := (Array.getElem?_eq_some_iff.1 hc).1
  exact put_fine h hw hi hs hp (by simp [hlt]) hr (fun b' hb => by simp [Array.getElem?_setIfInBounds_ne (fun e => hb e.symm)]) (by simp) ⟨rfl, rfl, rfl⟩

theorem run_setObj_other {b : Nat} {c c' : Obj} (hc : w.heap[b]? = some c) (hn : ∀ x y z, c ≠ .cells x y z) : (setObj b c').run P w = .ok () { w with heap := w.heap.setIfInBounds b c' } := by
  cases c <;> first | (exact absurd rfl (hn _ _ _)) | simp [setObj, Sem.run, hc]

theorem wrote_map (h : HR φ s w) (hw : Wf s) {t : TypeId} {x y z : Operand} {v : V} (hx : Kn φ ρ ρc x) (hy : Kn φ ρ ρc y) (hz : Kn φ ρ ρc z) (hv : wMap t x y z P ρ s = some (v, s')) :
    Wrote P φ s w (do Instr.mapUpdate t (ρc x) (ρc y) (ρc z); pure .skip) v s' := by
  unfold wMap at hv
  cases hxx : ρ x with
  | none => rw [hxx] at hv; cases hv
  | some u =>
    rw [hxx] at hv
    have hu := hx u hxx
    cases u <;> first | (cases hv; done) | skip
    rename_i i
    simp only at hv
    cases hyy : ρ y with
    | none => rw [hyy] at hv; cases hv
    | some k =>
      rw [hyy] at hv; simp only at hv
      have hk := hy k hyy
      cases hzz : ρ z with
      | none => rw [hzz] at hv; cases hv
      | some e =>
        rw [hzz] at hv; simp only at hv
        have he := hz e hzz
        split at hv
        · rename_i hok
          obtain ⟨kt, et, d, hut, hd, hkind⟩ := okKey_spec hok
          cases hs : s.get i with
          | none => rw [hs] at hv; cases hv
          | some ob =>
            rw [hs] at hv
            cases ob <;> first | (cases hv; done) | skip
            rename_i es clock
            simp only at hv
            obtain ⟨ev, ob, ho, hp⟩ := wPut_spec hv
            subst ev
            generalize ρc x = xc at hu
            cases hu with
            | @map _ b N hφ =>
            obtain ⟨es', h1, h2⟩ := h.map hφ hs
            have hck : (Instr.checkKey false 10000 kt (ρc y)).run P w = .ok () w := run_key hd hk hkind _ 9999
            have hgo : (getObj b).run P w = .ok (.map es' clock) w := by simp [getObj, Sem.run, h1]
            unfold setM at ho
            cases hf : findK k es 0 with
            | none => rw [hf] at ho; cases ho
            | some r =>
              rw [hf] at ho
              obtain ⟨r', f1, f2⟩ := run_findK (P := P) (w := w) hd hk hkind h2 hf
              cases r with
              | none =>
                simp only at f2 ho; subst f2
                injection ho with ho; subst ho
                refine wrote_unit ?_ (set_fine h hw hφ hs h1 hp (c' := .map (es'.push { key := ρc y, val := ρc z, born := clock }) (clock + 1)) (.map (by rw [Array.toList_push]; exact h2.push clock hk he)))
                simp only [Instr.mapUpdate, Sem.run_bind, run_und hut, Result.andThen_ok, hgo, hck, f1]
                exact run_setObj_other h1 (by intros; simp)
              | some r =>
                obtain ⟨j, v0, b0⟩ := r
                obtain ⟨v0', a1, a2, ek, a3, a4⟩ := f2
                subst a1
                simp only at ho
                injection ho with ho; subst ho
                obtain ⟨en, g1, g2, g3, g4⟩ := h2.get a3
                have g1' : es'[j]? = some en := by rw [← Array.getElem?_toList]; exact g1
                have hst : (Instr.keyThatStays (((es'[j]?).map (·.key)).getD (ρc y)) (ρc y)).run P w = .ok (ρc y) w := by
                  unfold Instr.keyThatStays
                  rw [g1']
                  simp only [Option.map_some, Option.getD_some]
                  rw [if_pos (sameBits_key hk g2 a4 10000)]; rfl
                refine wrote_unit ?_ (set_fine h hw hφ hs h1 hp (c' := .map (es'.modify j fun e => { e with key := ρc y, val := ρc z }) clock) (.map (by
                  have := h2.set j a3 hk he
                  rw [Array.toList_modify]; exact this)))
                simp only [Instr.mapUpdate, Sem.run_bind, run_und hut, Result.andThen_ok, hgo, hck, f1, hst]
                exact run_setObj_other h1 (by intros; simp)
        · cases hv

theorem setIfInBounds_same {b : Nat} {c : Obj} (h : w.heap[b]? = some c) : ({ w with heap := w.heap.setIfInBounds b c } : World) = w := by
  have : w.heap.setIfInBounds b c = w.heap := by
    apply Array.ext_getElem?
    intro i
    by_cases e : b = i
    · subst e
      have hlt : b < w.heap.size := (Array.getElem?_eq_some_iff.1 h).1
      rw [Array.getElem?_setIfInBounds_self_of_lt hlt, h]
    · rw [Array.getElem?_setIfInBounds_ne e]
  rw [this]

theorem wrote_delete (h : HR φ s w) (hw : Wf s) {t ty : TypeId} {ts : Array TypeId} {x y : Operand} {v : V} {xs : Array Operand} (hxs : xs.toList = [x, y]) (hx : Kn φ ρ ρc x) (hy : Kn φ ρ ρc y) (hv : wDelete ts xs P ρ s = some (v, s')) :
    Wrote P φ s w (do pure (Next.value (← Builtin.delete_ ts ty #[ρc x, ρc y]))) v s' := by
  unfold wDelete at hv
  rw [hxs] at hv
  simp only at hv
  split at hv
  · rename_i t' ts' hts
    have e1 : ts[0]? = some t' := by rw [← Array.getElem?_toList, hts]; rfl
    cases hxx : ρ x with
    | none => rw [hxx] at hv; cases hv
    | some u =>
      rw [hxx] at hv
      have hu := hx u hxx
      cases u <;> first | (cases hv; done) | skip
      rename_i i
      simp only at hv
      cases hyy : ρ y with
      | none => rw [hyy] at hv; cases hv
      | some k =>
        rw [hyy] at hv; simp only at hv
        have hk := hy k hyy
        split at hv
        · rename_i hok
          obtain ⟨kt, et, d, hut, hd, hkind⟩ := okKey_spec hok
          cases hs : s.get i with
          | none => rw [hs] at hv; cases hv
          | some ob =>
            rw [hs] at hv
            cases ob <;> first | (cases hv; done) | skip
            rename_i es clock
            simp only at hv
            generalize ρc x = xc at hu
            cases hu with
            | @map _ b N hφ =>
            obtain ⟨es', h1, h2⟩ := h.map hφ hs
            have hck : (Instr.checkKey es'.isEmpty 10000 kt (ρc y)).run P w = .ok () w := run_key hd hk hkind _ 9999
            have hgo : (getObj b).run P w = .ok (.map es' clock) w := by simp [getObj, Sem.run, h1]
            cases hf : findK k es 0 with
            | none => rw [hf] at hv; cases hv
            | some r =>
              rw [hf] at hv
              obtain ⟨r', f1, f2⟩ := run_findK (P := P) (w := w) hd hk hkind h2 hf
              cases r with
              | none =>
                simp only at f2 hv; subst f2
                injection hv with hv; injection hv with q1 q2; subst q1; subst q2
                refine wrote_value (v' := Go.undef) ?_ (VR.undef φ) (Fine.refl h hw)
                simp only [Builtin.delete_, e1, List.getElem?_toArray, List.getElem?_cons_zero, List.getElem?_cons_succ, Sem.run_bind, run_und hut, Result.andThen_ok, hgo, hck, f1]
                rw [run_setObj_other h1 (by intros; simp), setIfInBounds_same h1]; rfl
              | some r =>
                obtain ⟨j, v0, b0⟩ := r
                obtain ⟨v0', a1, a2, ek, a3, a4⟩ := f2
                subst a1
                simp only at hv
                obtain ⟨ev, ob, ho, hp⟩ := wPut_spec hv
                subst ev
                injection ho with ho; subst ho
                refine wrote_value (v' := Go.undef) ?_ (VR.undef φ) (set_fine h hw hφ hs h1 hp (c' := .map (es'.eraseIdxIfInBounds j) clock) (.map (by rw [Array.toList_eraseIdxIfInBounds]; exact h2.erase j)))
                simp only [Builtin.delete_, e1, List.getElem?_toArray, List.getElem?_cons_zero, List.getElem?_cons_succ, Sem.run_bind, run_und hut, Result.andThen_ok, hgo, hck, f1]
                rw [run_setObj_other h1 (by intros; simp)]; rfl
        · cases hv
  · cases hv

end Go.AM

namespace Go.AM

variable {P : Program} {φ : Map} {ρ : Rho} {ρc : Operand → Value} {w : World} {s s' : St}

theorem mapElemT_spec {t e : TypeId} (h : mapElemT P t = some e) : ∃ k, P.underlying t = some (.map k e) := by
  unfold mapElemT at h
  split at h
  · rename_i hu; injection h with h; subst h; exact ⟨_, hu⟩
  · cases h

theorem wrote_clear (h : HR φ s w) (hw : Wf s) {ty : TypeId} {ts : Array TypeId} {x : Operand} {v : V} {xs : Array Operand} (hxs : xs.toList = [x]) (hx : Kn φ ρ ρc x) (hv : wClear ts xs P ρ s = some (v, s')) :
    Wrote P φ s w (do pure (Next.value (← Builtin.clear_ ts ty #[ρc x]))) v s' := by
  unfold wClear at hv
  rw [hxs] at hv
  simp only at hv
  split at hv
  · rename_i t ts' hts
    have e1 : ts[0]? = some t := by rw [← Array.getElem?_toList, hts]; rfl
    cases hxx : ρ x with
    | none => rw [hxx] at hv; cases hv
    | some u =>
      rw [hxx] at hv
      have hu := hx u hxx
      generalize ρc x = xc at hu
      cases u <;> first | (cases hv; done) | skip
      case map i =>
        simp only at hv
        cases he : mapElemT P t with
        | none => rw [he] at hv; cases hv
        | some e =>
          rw [he] at hv; simp only at hv
          obtain ⟨kt, hut⟩ := mapElemT_spec he
          cases hs : s.get i with
          | none => rw [hs] at hv; cases hv
          | some ob =>
            rw [hs] at hv
            cases ob <;> first | (cases hv; done) | skip
            rename_i es clock
            simp only at hv
            obtain ⟨ev, ob, ho, hp⟩ := wPut_spec hv
            subst ev
            injection ho with ho; subst ho
            cases hu with
            | @map _ b N hφ =>
            obtain ⟨es', h1, h2⟩ := h.map hφ hs
            have hgo : (getObj b).run P w = .ok (.map es' clock) w := by simp [getObj, Sem.run, h1]
            refine wrote_value (v' := Go.undef) ?_ (VR.undef φ) (set_fine h hw hφ hs h1 hp (c' := .map #[] clock) (.map .nil))
            simp only [Builtin.clear_, e1, List.getElem?_toArray, List.getElem?_cons_zero, Sem.run_bind, run_und hut, Result.andThen_ok, hgo]
            rw [run_setObj_other h1 (by intros; simp)]; rfl
      case sl i off len cap es =>
        simp only at hv
        cases he : sliceElemT P t with
        | none => rw [he] at hv; cases hv
        | some e =>
          rw [he] at hv; simp only at hv
          have hut := sliceElemT_spec he
          cases hz : zeroCellsT P e with
          | none => rw [hz] at hv; cases hv
          | some z =>
            rw [hz] at hv; simp only at hv
            cases hsz : sizeT P e with
            | none => rw [hsz] at hv; cases hv
            | some k =>
              rw [hsz] at hv; simp only at hv
              split at hv
              · rename_i hk
                have hk1 : 1 ≤ len := by
                  cases h1 : Nat.ble 1 len with
                  | true => exact Nat.le_of_ble_eq_true h1
                  | false => rw [h1, Bool.and_false] at hk; cases hk
                cases hs : s.get i with
                | none => rw [hs] at hv; cases hv
                | some ob =>
                  rw [hs] at hv
                  cases ob <;> first | (cases hv; done) | skip
                  rename_i tr m
                  simp only at hv
                  obtain ⟨ev, ob, ho, hp⟩ := wPut_spec hv
                  subst ev
                  have : ∃ b N c, xc = .slice (some ⟨b, off, none⟩) len c ∧ φ i = some (b, N) := by
                    cases hu with
                    | slx _ _ _ hφ => exact ⟨_, _, _, rfl, hφ⟩
                    | sls _ _ _ _ _ hφ _ _ => exact ⟨_, _, _, rfl, hφ⟩
                  obtain ⟨b, N, c, ea, hφ⟩ := this
                  subst ea
                  obtain ⟨z', e1', e2'⟩ := run_zeroCells (w := w) hz
                  have hzc : VRs φ (zeros z len) (Builtin.zeroCells z'.cells len).toList := by
                    have := zeros_VRs (e2' φ) len
                    have hl : z'.cells.size = z.length := by have := (e2' φ).length; simpa using this
                    unfold Builtin.zeroCells
                    rw [hl]; rw [hl] at this; exact this
                  obtain ⟨r1, r2⟩ := run_writeC (P := P) h hw hφ hs ho hzc hp
                  refine wrote_value (v' := Go.undef) ?_ (VR.undef φ) r2
                  obtain ⟨len, rfl⟩ : ∃ n, len = n + 1 := ⟨len - 1, by omega⟩
                  simp only [Builtin.clear_, e1, List.getElem?_toArray, List.getElem?_cons_zero, Sem.run_bind, run_und hut, Result.andThen_ok, e1', r1, Sem.run_pure]
                  rfl
              · cases hv
  · cases hv

theorem wNew_spec {l : Lead} {o : O} {v : V} (h : wNew l (s.new o) = some (v, s')) : ∃ i, s.new o = some (i, s') ∧ v = l.at i := by
  unfold wNew at h
  cases hn : s.new o with
  | none => rw [hn] at h; cases h
  | some r => obtain ⟨i, s1⟩ := r; rw [hn] at h; simp only at h; injection h with h; injection h with h1 h2; subst h1; subst h2; exact ⟨i, rfl, rfl⟩

theorem Free.at (hf : Free φ s s') (h : s'.next = s.next + 1) : φ s.next = none := hf _ (Nat.le_refl _) (by omega)

theorem HR.lt' (h : HR φ s w) : ∀ j b N, φ j = some (b, N) → s.get j ≠ none → b < w.heap.size := fun _ _ _ h1 h2 => h.lt h1 h2

theorem wrote_range (h : HR φ s w) (hw : Wf s) {t : TypeId} {x : Operand} {v : V} (hx : Kn φ ρ ρc x) (hv : wRange t x P ρ s = some (v, s')) (hf : Free φ s s') :
    Wrote P φ s w (do pure (Next.value (← Instr.range t (ρc x)))) v s' := by
  unfold wRange at hv
  split at hv
  · rename_i kt et hut
    cases hxx : ρ x with
    | none => rw [hxx] at hv; cases hv
    | some u =>
      rw [hxx] at hv
      have hu := hx u hxx
      generalize ρc x = xc at hu
      cases u <;> first | (cases hv; done) | skip
      rename_i i
      simp only at hv
      cases hs : s.get i with
      | none => rw [hs] at hv; cases hv
      | some ob =>
        rw [hs] at hv
        cases ob <;> first | (cases hv; done) | skip
        rename_i es clock
        simp only at hv
        obtain ⟨k, hn, e⟩ := wNew_spec hv
        subst e
        cases hu with
        | @map _ b N hφ =>
        obtain ⟨es', h1, h2⟩ := h.map hφ hs
        have hgo : (getObj b).run P w = .ok (.map es' clock) w := by simp [getObj, Sem.run, h1]
        have hfr := hf.at (new_spec hn).2.1
        refine wrote_value (w' := { w with heap := w.heap.push (.mapIter (some b) clock #[] clock) }) (v' := .pointer (some ⟨w.heap.size, 0, none⟩)) ?_ (.ptr (N := 0) 0 (Map.upd_same _ _ _)) (new_fine h hw hn hfr rfl (.iter hφ) ⟨rfl, rfl, rfl⟩ h.lt')
        simp only [Instr.range, Sem.run_bind, run_und hut, Result.andThen_ok, hgo, Sem.run_pure, run_newObj]
  · cases hv

theorem filter_MR (seen : List Nat) : ∀ {es : List (V × V × Nat)} {es' : List MapEntry}, MR φ es es' → MR φ (leftM seen es) (es'.filter fun e => !(⟨seen⟩ : Array Nat).contains e.born) := by
  intro es es' h
  induction h with
  | nil => exact .nil
  | @cons k v b e l l' hk hv hb t ih =>
    unfold leftM at ih ⊢
    simp only [List.filter_cons, hb]
    have : (⟨seen⟩ : Array Nat).contains b = seen.contains b := by simp
    rw [this]
    split
    · exact .cons hk hv hb ih
    · exact ih

theorem stale_MR (seen : List Nat) (last : Nat) {es : List (V × V × Nat)} {es' : Array MapEntry} (h : MR φ es es'.toList) :
    (!(⟨seen⟩ : Array Nat).isEmpty && !es'.isEmpty && es'.all fun e => decide (e.born ≥ last)) = staleM seen last es := by
  have h1 : (⟨seen⟩ : Array Nat).isEmpty = seen.isEmpty := by simp
  have h2 : es'.isEmpty = es.isEmpty := by
    have := h.length
    cases es' with
    | mk l => cases l <;> cases es <;> simp_all
  have h3 : (es'.all fun e => decide (e.born ≥ last)) = es.all fun e => decide (last ≤ e.2.2) := by
    rw [← Array.all_toList]
    generalize es'.toList = l at h
    clear h2 h1
    induction h with
    | nil => rfl
    | cons hk hv hb t ih => simp only [List.all_cons, ih, hb]
  rw [h1, h2, h3]; unfold staleM; first | rfl | rw [Bool.and_assoc]

theorem wrote_next (h : HR φ s w) (hw : Wf s) {x : Operand} {isS : Bool} {ty : TypeId} {v : V} (hx : Kn φ ρ ρc x) (hv : wNext x isS P ρ s = some (v, s')) :
    Wrote P φ s w (do pure (Next.value (← Instr.next (ρc x) isS ty))) v s' := by
  unfold wNext at hv
  cases isS with
  | true => cases hv
  | false =>
  simp only at hv
  cases hxx : ρ x with
  | none => rw [hxx] at hv; cases hv
  | some u =>
    rw [hxx] at hv
    have hu := hx u hxx
    generalize ρc x = xc at hu
    cases u <;> first | (cases hv; done) | skip
    rename_i j off
    cases off with
    | succ off => cases hv
    | zero =>
    simp only at hv
    cases hs : s.get j with
    | none => rw [hs] at hv; cases hv
    | some ob =>
      rw [hs] at hv
      cases ob <;> first | (cases hv; done) | skip
      rename_i i since seen last
      simp only at hv
      cases hsm : s.get i with
      | none => rw [hsm] at hv; cases hv
      | some ob =>
        rw [hsm] at hv
        cases ob <;> first | (cases hv; done) | skip
        rename_i es clock
        simp only at hv
        split at hv
        · cases hv
        · rename_i hst
          cases hu with
          | @ptr _ bj Nj _ hφj =>
          obtain ⟨c, hc, hr⟩ := h.obj j bj Nj _ hφj hs
          cases hr with
          | @iter _ bm M _ _ _ hφm =>
          obtain ⟨es', h1, h2⟩ := h.map hφm hsm
          have hgi : (getObj bj).run P w = .ok (.mapIter (some bm) since ⟨seen⟩ last) w := by simp [getObj, Sem.run, hc]
          have hgm : (getObj bm).run P w = .ok (.map es' clock) w := by simp [getObj, Sem.run, h1]
          have hstale := (stale_MR seen last h2).trans hst
          have hleft := filter_MR seen h2
          have hleft' : (es'.filter fun e => !(⟨seen⟩ : Array Nat).contains e.born).toList = es'.toList.filter fun e => !(⟨seen⟩ : Array Nat).contains e.born := by simp
          split at hv
          · rename_i hl
            injection hv with hv; injection hv with q1 q2; subst q1; subst q2
            rw [hl] at hleft
            have hnil : (es'.filter fun e => !(⟨seen⟩ : Array Nat).contains e.born) = #[] := by
              apply Array.ext'
              rw [hleft']
              generalize (es'.toList.filter fun e => !(⟨seen⟩ : Array Nat).contains e.born) = fl at hleft
              cases hleft; rfl
            refine wrote_value (v' := .tuple #[.bool false]) ?_ (.tup (.cons (.bool false) .nil)) (Fine.refl h hw)
            simp only [Instr.next, Sem.run_bind, hgi, hgm, Result.andThen_ok]
            rw [if_neg (by rw [hstale]; simp)]
            simp only [hnil]
            have f0 : ((if (Array.filter (fun (x : MapEntry) => decide (x.born < since)) #[]).isEmpty = true then #[none] else #[]) ++
                  Array.map some (Array.filter (fun (x : MapEntry) => decide (x.born < since)) #[] ++ Array.filter (fun (x : MapEntry) => decide (x.born ≥ since)) #[])) = #[none] := by simp
            rw [f0]
            have fc : (choose (.mapNext (#[none] : Array (Option MapEntry)).size)).run P w = .ok 0 w := by
              simp [choose, Sem.run, Question.forced]
            rw [Sem.run_bind, fc]
            rfl
          · rename_i k v b hl
            split at hv
            · rename_i hb
              have hb := Nat.le_of_ble_eq_true hb
              obtain ⟨ev, ob, ho, hp⟩ := wPut_spec hv
              subst ev
              injection ho with ho; subst ho
              rw [hl] at hleft
              have hone : ∃ e, (es'.filter fun e => !(⟨seen⟩ : Array Nat).contains e.born) = #[e] ∧ VR φ k e.key ∧ VR φ v e.val ∧ e.born = b := by
                rw [← hleft'] at hleft
                generalize (es'.filter fun e => !(⟨seen⟩ : Array Nat).contains e.born) = f at hleft
                obtain ⟨fl⟩ := f
                cases hleft with
                | cons hk hv hb t => cases t; exact ⟨_, rfl, hk, hv, hb⟩
              obtain ⟨e, he, hk, hv', hb'⟩ := hone
              refine wrote_value (v' := .tuple #[.bool true, e.key, e.val]) ?_ (.tup (.cons (.bool true) (.cons hk (.cons hv' .nil)))) (set_fine h hw hφj hs hc hp (c' := .mapIter (some bm) since (⟨seen ++ [b]⟩ : Array Nat) clock) (.iter hφm))
              simp only [Instr.next, Sem.run_bind, hgi, hgm, Result.andThen_ok]
              rw [if_neg (by rw [hstale]; simp)]
              simp only [he]
              have f1 : (#[e] : Array MapEntry).filter (fun e => decide (e.born < since)) = #[e] := by simp [hb']; omega
              have f2 : (#[e] : Array MapEntry).filter (fun e => decide (e.born ≥ since)) = #[] := by simp [hb']; omega
              simp only [f1, f2]
              have f3 : ((if (#[e] : Array MapEntry).isEmpty = true then #[none] else #[]) ++ ((#[e] : Array MapEntry) ++ #[]).map some) = #[some e] := by simp
              rw [f3]
              have fc : (choose (.mapNext (#[some e] : Array (Option MapEntry)).size)).run P w = .ok 0 w := by
                simp [choose, Sem.run, Question.forced]
              rw [Sem.run_bind, fc]
              simp only [Result.andThen_ok, Sem.run_bind, List.getElem?_toArray, List.getElem?_cons_zero]
              rw [run_setObj_other hc (by intros; simp)]
              simp [hb']
            · cases hv
          · cases hv

end Go.AM

namespace Go.AM

variable {P : Program} {φ : Map} {ρ : Rho} {ρc : Operand → Value} {w : World} {s s' : St}

theorem lastOf_back : ∀ (l : List Nat), (⟨l⟩ : Array Nat).back? = lastOf l
  | [] => rfl
  | [b] => by simp [lastOf]
  | a :: b :: l => by
    have := lastOf_back (b :: l)
    simp only [lastOf]
    rw [← this]
    simp [Array.back?, List.getLast?_cons_cons] at *

theorem find_MR (b : Nat) : ∀ {es : List (V × V × Nat)} {es' : List MapEntry}, MR φ es es' → ∀ {k v : V} {b' : Nat}, es.find? (fun e => Nat.beq e.2.2 b) = some (k, v, b') →
    ∃ e, es'.find? (fun e => e.born == b) = some e ∧ VR φ k e.key ∧ VR φ v e.val := by
  intro es es' h
  induction h with
  | nil => intro k v b' h; simp at h
  | @cons k0 v0 b0 e l l' hk hv hb t ih =>
    intro k v b' h
    simp only [List.find?_cons] at h ⊢
    have e0 : (e.born == b) = Nat.beq b0 b := by
      rw [hb]
      by_cases h : b0 = b
      · subst h; rw [Nat.beq_refl]; simp
      · rw [beq_false h]; simpa using h
    rw [e0]
    cases hq : Nat.beq b0 b with
    | true => rw [hq] at h; simp at h; obtain ⟨rfl, rfl, rfl⟩ := h; exact ⟨e, rfl, hk, hv⟩
    | false => rw [hq] at h; exact ih h

theorem wrote_entry (h : HR φ s w) (hw : Wf s) {x : Operand} {v : V} (hx : Kn φ ρ ρc x) (hv : wEntry x P ρ s = some (v, s')) :
    Wrote P φ s w (do pure (Next.value (← Instr.entry (ρc x)))) v s' := by
  unfold wEntry at hv
  cases hxx : ρ x with
  | none => rw [hxx] at hv; cases hv
  | some u =>
    rw [hxx] at hv
    have hu := hx u hxx
    generalize ρc x = xc at hu
    cases u <;> first | (cases hv; done) | skip
    rename_i j off
    cases off with
    | succ off => cases hv
    | zero =>
    simp only at hv
    cases hs : s.get j with
    | none => rw [hs] at hv; cases hv
    | some ob =>
      rw [hs] at hv
      cases ob <;> first | (cases hv; done) | skip
      rename_i i since seen last
      simp only at hv
      cases hsm : s.get i with
      | none => rw [hsm] at hv; cases hv
      | some ob =>
        rw [hsm] at hv
        cases ob <;> first | (cases hv; done) | skip
        rename_i es clock
        simp only at hv
        split at hv
        · rename_i hcl
          have hcl := Nat.eq_of_beq_eq_true hcl
          subst hcl
          cases hl : lastOf seen with
          | none => rw [hl] at hv; cases hv
          | some b =>
            rw [hl] at hv; simp only at hv
            cases hfd : es.find? (fun e => Nat.beq e.2.2 b) with
            | none => rw [hfd] at hv; cases hv
            | some r =>
              obtain ⟨k, v0, b'⟩ := r
              rw [hfd] at hv; simp only at hv
              injection hv with hv; injection hv with q1 q2; subst q1; subst q2
              cases hu with
              | @ptr _ bj Nj _ hφj =>
              obtain ⟨c, hc, hr⟩ := h.obj j bj Nj _ hφj hs
              cases hr with
              | @iter _ bm M _ _ _ hφm =>
              obtain ⟨es', h1, h2⟩ := h.map hφm hsm
              have hgi : (getObj bj).run P w = .ok (.mapIter (some bm) since ⟨seen⟩ clock) w := by simp [getObj, Sem.run, hc]
              have hgm : (getObj bm).run P w = .ok (.map es' clock) w := by simp [getObj, Sem.run, h1]
              obtain ⟨e, f1, f2, f3⟩ := find_MR b h2 hfd
              have f1' : es'.find? (fun e => e.born == b) = some e := by rw [← Array.find?_toList]; exact f1
              refine wrote_value (v' := .tuple #[e.key, e.val]) ?_ (.tup (.cons f2 (.cons f3 .nil))) (Fine.refl h hw)
              simp only [Instr.entry, Sem.run_bind, hgi, Result.andThen_ok, lastOf_back, hl, hgm]
              simp [f1']
        · cases hv

theorem wrote_conv (h : HR φ s w) (hw : Wf s) {sr d : TypeId} {x : Operand} {v : V} (hx : Kn φ ρ ρc x) (hv : wConv sr d x P ρ s = some (v, s')) :
    Wrote P φ s w (do pure (Next.value (← convert sr d (ρc x)))) v s' := by
  unfold wConv at hv
  split at hv
  · rename_i hsd
    have hsd := Nat.eq_of_beq_eq_true hsd
    subst hsd
    cases he : sliceElemT P sr with
    | none => rw [he] at hv; cases hv
    | some e =>
      rw [he] at hv; simp only at hv
      have hut := sliceElemT_spec he
      split at hv
      · rename_i hue
        cases hxx : ρ x with
        | none => rw [hxx] at hv; cases hv
        | some u =>
          rw [hxx] at hv
          have hu := hx u hxx
          generalize ρc x = xc at hu
          cases u <;> first | (cases hv; done) | skip
          rename_i i off len cap es
          simp only at hv
          cases hs : s.get i with
          | none => rw [hs] at hv; cases hv
          | some ob =>
            rw [hs] at hv
            cases ob <;> first | (cases hv; done) | skip
            rename_i t n
            simp only at hv
            injection hv with hv; injection hv with q1 q2; subst q1; subst q2
            have : ∃ b N c, xc = .slice (some ⟨b, off, none⟩) len c ∧ φ i = some (b, N) := by
              cases hu with
              | slx _ _ _ hφ => exact ⟨_, _, _, rfl, hφ⟩
              | sls _ _ _ _ _ hφ _ _ => exact ⟨_, _, _, rfl, hφ⟩
            obtain ⟨b, N, c, ea, hφ⟩ := this
            subst ea
            obtain ⟨cs, ty, fz, hc, hN, hn, hcs, hf, hz⟩ := h.cells hφ hs
            have hlt : b < w.heap.size := (Array.getElem?_eq_some_iff.1 hc).1
            have hrun : (convert sr sr (.slice (some ⟨b, off, none⟩) len c)).run P w = .ok (.slice (some ⟨b, off, none⟩) len c) (w.freeze ⟨b, N, none⟩ 1) := by
              simp only [convert, Sem.run_bind, run_und hut, run_und hue, Result.andThen_ok, beq_self_eq_true, markStringish, run_shape, World.shape?, hc, run_freeze, Sem.run_pure, hN]
            obtain ⟨f1, f2⟩ := fz
            have hfz : ∃ g1 g2, (w.freeze ⟨b, N, none⟩ 1).heap[b]? = some (.cells cs ty (g1, g2)) ∧ N ≤ g1 := by
              refine ⟨if f1 == f2 then N else min f1 N, if f1 == f2 then N + 1 else max f2 (N + 1), ?_, ?_⟩
              · simp only [World.freeze]
                rw [if_neg (by decide)]
                simp only [Array.getElem?_modify, if_true, hc, Option.map_some]
                split <;> rfl
              · split
                · exact Nat.le_refl _
                · rename_i hne
                  rcases hz with hz | hz
                  · exact absurd (by simpa using hz) hne
                  · simp only at hz; omega
            obtain ⟨g1, g2, hg, hgN⟩ := hfz
            have hother : ∀ b', b' ≠ b → (w.freeze ⟨b, N, none⟩ 1).heap[b']? = w.heap[b']? := by
              intro b' hb
              simp only [World.freeze]
              rw [if_neg (by decide)]
              rw [Array.getElem?_modify, if_neg (fun (e : b = b') => hb e.symm)]
            have hsize : (w.freeze ⟨b, N, none⟩ 1).heap.size = w.heap.size := by
              simp only [World.freeze]
              rw [if_neg (by decide)]
              simp
            have hcalm : Calm w (w.freeze ⟨b, N, none⟩ 1) := by
              simp only [World.freeze]
              rw [if_neg (by decide)]
              exact ⟨rfl, rfl, rfl⟩
            refine wrote_value hrun hu ⟨⟨fun j b' N' oj hj hgj => ?_, h.inj⟩, ⟨fun _ _ => rfl, Nat.le_refl _, fun j b N h1 h2 _ => absurd (Nat.lt_of_le_of_lt h1 h2) (Nat.lt_irrefl _), fun _ _ h => h, fun b' hb hidle => ?_, by rw [hsize]; exact Nat.le_refl _⟩, hcalm, hw⟩
            · by_cases e : j = i
              · subst e
                rw [hs] at hgj; injection hgj with hgj; subst hgj
                rw [hφ] at hj; injection hj with hj; injection hj with e1 e2; subst e1; subst e2
                exact ⟨_, hg, .cells hN hn hcs (fun x hx hh => absurd hh.1 (by simp only; omega)) (.inr hgN)⟩
              · obtain ⟨cj, c1, c2⟩ := h.obj j b' N' oj hj hgj
                refine ⟨cj, ?_, c2⟩
                rw [hother b' (fun eb => e (h.inj j i b N' N (eb ▸ hj) hφ (by rw [hgj]; simp) (by rw [hs]; simp)))]
                exact c1
            · refine hother b' fun e => ?_
              subst e
              have := hidle i N hφ
              rw [hs] at this; cases this
      · cases hv
  · cases hv

end Go.AM

namespace Go.AM

variable {P : Program} {φ : Map} {ρ : Rho} {ρc : Operand → Value} {w : World} {s s' : St}

/-! ### append and copy -/

/-- what is appended or copied: so many of its elements, and their cells -/
theorem newsOf_spec (h : HR φ s w) {size n : Nat} {x : V} {x' : Value} {news : List V} (hx : VR φ x x') (hn : newsOf size x s = some (n, news)) :
    news.length = n * size ∧ (Builtin.lenOf x').run P w = .ok n w ∧ ∃ l : List Value, (Builtin.firstCells size n x').run P w = .ok l.toArray w ∧ VRs φ news l := by
  unfold newsOf at hn
  cases x <;> first | (cases hn; done) | skip
  case sl0 => injection hn with hn; injection hn with h1 h2; subst h1; subst h2; cases hx; exact ⟨by simp, rfl, [], rfl, .nil⟩
  case slE => injection hn with hn; injection hn with h1 h2; subst h1; subst h2; cases hx; exact ⟨by simp, rfl, [], by simp [Builtin.firstCells, loadCells, loadCellsFrom], .nil⟩
  case sl i off len cap es =>
    simp only at hn
    cases hs : s.get i with
    | none => rw [hs] at hn; cases hn
    | some ob =>
      rw [hs] at hn
      cases ob <;> first | (cases hn; done) | skip
      rename_i t m
      simp only at hn
      cases hg : t.getN (len * size) off with
      | none => rw [hg] at hn; cases hn
      | some l =>
        rw [hg] at hn; injection hn with hn; injection hn with h1 h2; subst h1; subst h2
        have : ∃ b N c, x' = .slice (some ⟨b, off, none⟩) len c ∧ φ i = some (b, N) := by
          cases hx with
          | slx _ _ _ hφ => exact ⟨_, _, _, rfl, hφ⟩
          | sls _ _ _ _ _ hφ _ _ => exact ⟨_, _, _, rfl, hφ⟩
        obtain ⟨b, N, c, ea, hφ⟩ := this
        subst ea
        obtain ⟨l', r1, r2⟩ := run_getN (P := P) h hφ hs hg
        exact ⟨(getN_spec t _ off _ hg).1, rfl, l', r1, r2⟩
  case str st =>
    simp only at hn
    split at hn
    · rename_i hone
      have hone := Nat.eq_of_beq_eq_true hone
      injection hn with hn; injection hn with h1 h2; subst h1; subst h2
      cases hx
      refine ⟨by rw [hone]; simp, rfl, st.data.toList.map fun b => Value.int .u8 b.toNat, ?_, ?_⟩
      · have e : (st.extract 0 st.size).data = st.data := by
          apply Array.ext'
          rw [Lib.extract_data, List.drop_zero, Nat.sub_zero]
          exact List.take_of_length_le (by simp)
        simp only [Builtin.firstCells, e]
        show Result.ok _ w = Result.ok _ w
        congr 1
        apply Array.ext'; simp
      · refine VRs.of_get (by simp) fun j v hj => ?_
        simp only [List.getElem?_map] at hj ⊢
        cases hg : st.data.toList[j]? with
        | none => rw [hg] at hj; cases hj
        | some b => rw [hg] at hj; injection hj with hj; subst hj; exact ⟨_, rfl, .int _ _⟩
    · cases hn

theorem plainApp_spec {t : TypeId} {ts : Array TypeId} {rest : List TypeId} (hts : ts.toList = t :: rest) (h : plainApp P ts.toList = true) :
    ts[0]? = some t ∧ (ts[1]? = none ∨ ∃ t1 d, ts[1]? = some t1 ∧ P.underlying t1 = some d ∧ ∀ k, d ≠ .int k) := by
  refine ⟨by rw [← Array.getElem?_toList, hts]; rfl, ?_⟩
  rw [← Array.getElem?_toList, hts]
  rw [hts] at h
  cases rest with
  | nil => exact .inl rfl
  | cons t1 rest =>
    simp only [plainApp] at h
    split at h
    · cases h
    · rename_i d hn hd; exact .inr ⟨t1, d, rfl, hd, fun k e => by subst e; exact hn k rfl⟩
    · cases h

theorem okApp_spec {e : TypeId} {size : Nat} (h : okApp P e = some size) : ∃ i z, P.info? e = some i ∧ sizeT P e = some size ∧ i.size = size ∧ 1 ≤ i.bytes ∧ i.bytes ≤ 1000000 ∧ 1 ≤ size ∧ zeroCellsT P e = some z ∧ z.length = size := by
  unfold okApp at h
  cases hi : P.info? e with
  | none => rw [hi] at h; cases h
  | some i =>
    rw [hi] at h; simp only at h
    split at h
    · rename_i hb
      cases hz : zeroCellsT P e with
      | none => rw [hz] at h; cases h
      | some z =>
        rw [hz] at h; simp only at h
        split at h
        · rename_i hl
          injection h with h; subst h
          simp only [Bool.and_eq_true] at hb
          exact ⟨i, z, rfl, by simp [sizeT, hi], rfl, Nat.le_of_ble_eq_true hb.1, Nat.le_of_ble_eq_true hb.2.1, Nat.le_of_ble_eq_true hb.2.2, rfl, Nat.eq_of_beq_eq_true hl⟩
        · cases h
    · cases h

theorem run_append_in {t e ty : TypeId} {ts : Array TypeId} {base : Option Addr} {sLen sCap n size : Nat} {y' : Value} {l : List Value} {w' : World}
    (h0 : ts[0]? = some t) (h1 : ts[1]? = none ∨ ∃ t1 d, ts[1]? = some t1 ∧ P.underlying t1 = some d ∧ ∀ k, d ≠ .int k) (hu : P.underlying t = some (.slice e)) (hs : sizeT P e = some size)
    (hn : (Builtin.lenOf y').run P w = .ok n w) (hf : (Builtin.firstCells size n y').run P w = .ok l.toArray w) (hle : sLen + n ≤ sCap)
    (hst : match base with | some a => (storeCells (a.add (sLen * size)) l).run P w = .ok () w' | none => w' = w) :
    (Builtin.append_ ts ty #[.slice base sLen sCap, y']).run P w = .ok (.slice base (sLen + n) sCap) w' := by
  have fin : ((if sLen + n ≤ sCap then do
        let new ← Builtin.firstCells size n y'
        if let some a := base then storeCells (a.add (sLen * size)) new.toList
        pure (.slice base (sLen + n) sCap) else stuck "" : Sem Value)).run P w = .ok (.slice base (sLen + n) sCap) w' := by
    rw [if_pos hle]
    simp only [Sem.run_bind, hf, Result.andThen_ok]
    cases base with
    | none => subst hst; rfl
    | some a => simp only [Sem.run_bind, List.toList_toArray] at hst ⊢; rw [hst]; rfl
  rw [if_pos hle] at fin
  rcases h1 with h1 | ⟨t1, d, h1, hd, hk⟩
  · simp only [Builtin.append_, h0, h1, List.getElem?_toArray, List.getElem?_cons_zero, List.getElem?_cons_succ, Sem.run_bind, run_und hu, run_size hs, Result.andThen_ok, Sem.run_pure, Bool.false_eq_true, if_false, hn, Bool.not_false, if_true, if_pos hle] at fin ⊢
    exact fin
  · have hm : (match d with | .int _ => true | _ => false) = false := by cases d <;> first | rfl | exact absurd rfl (hk _)
    simp only [Builtin.append_, h0, h1, List.getElem?_toArray, List.getElem?_cons_zero, List.getElem?_cons_succ, Sem.run_bind, run_und hu, run_und hd, run_size hs, Result.andThen_ok, Sem.run_pure, hm, Bool.false_eq_true, if_false, hn, Bool.not_false, if_true, if_pos hle] at fin ⊢
    exact fin

theorem run_append_out {t e ty : TypeId} {ts : Array TypeId} {base : Option Addr} {sLen sCap n size : Nat} {y' : Value} {l old : List Value} {inf : TypeInfo} {z' : Value}
    (h0 : ts[0]? = some t) (h1 : ts[1]? = none ∨ ∃ t1 d, ts[1]? = some t1 ∧ P.underlying t1 = some d ∧ ∀ k, d ≠ .int k) (hu : P.underlying t = some (.slice e)) (hs : sizeT P e = some size)
    (hi : P.info? e = some inf) (hb1 : 1 ≤ inf.bytes) (hb2 : inf.bytes ≤ 1000000) (hneed : sLen + n ≤ 1000000)
    (hn : (Builtin.lenOf y').run P w = .ok n w) (hf : (Builtin.firstCells size n y').run P { w with drawn := w.drawn + 1 } = .ok l.toArray { w with drawn := w.drawn + 1 }) (hle : ¬ sLen + n ≤ sCap)
    (ho : (Builtin.firstCells size sLen (.slice base sLen sCap)).run P { w with drawn := w.drawn + 1 } = .ok old.toArray { w with drawn := w.drawn + 1 }) (hz : ∀ w', (zeroValue e).run P w' = .ok z' w') :
    ∃ newCap, sLen + n ≤ newCap ∧ (Builtin.append_ ts ty #[.slice base sLen sCap, y']).run P w = .ok (.slice (some ⟨w.heap.size, 0, none⟩) (sLen + n) newCap)
      { w with drawn := w.drawn + 1, heap := w.heap.push (.cells (old.toArray ++ l.toArray ++ Builtin.zeroCells z'.cells (newCap - (sLen + n))) e (0, 0)) } := by
  obtain ⟨cap, hc, hr⟩ := run_cap (P := P) (w := w) (sLen + n) sCap e
  refine ⟨cap, hc, ?_⟩
  have hns : Builtin.nextslicecap (sLen + n) sCap ≤ 2 * (sLen + n) := nextslicecap_le (by omega)
  have hbig : ¬ (Builtin.nextslicecap (sLen + n) sCap * inf.bytes > 2 ^ 48) := by
    have : Builtin.nextslicecap (sLen + n) sCap * inf.bytes ≤ 2000000 * 1000000 := Nat.mul_le_mul (by omega) hb2
    have h2 : (2 : Nat) ^ 48 = 281474976710656 := by decide
    omega
  have hb0 : ¬ inf.bytes = 0 := by omega
  have hmax : ¬ (((sLen + n : Nat) : Int) > IntKind.i64.max ∧ ((false = true) ∨ inf.bytes = 0)) := by simp [hb0]
  have hf' := hf
  have ho' := ho
  have hz' := hz { w with drawn := w.drawn + 1 }
  rcases h1 with h1 | ⟨t1, d, h1, hd, hk⟩
  · simp only [Builtin.append_, h0, h1, List.getElem?_toArray, List.getElem?_cons_zero, List.getElem?_cons_succ, Sem.run_bind, run_und hu, run_size hs, Result.andThen_ok, Sem.run_pure, Bool.false_eq_true, if_false, hn, Bool.not_false, if_true, if_neg hle,
      run_typeInfo' hi, false_or, hb0, and_false, if_neg hbig, hr, run_askRoom, ho', hf', hz', newRow, run_newObj]
  · have hm : (match d with | .int _ => true | _ => false) = false := by cases d <;> first | rfl | exact absurd rfl (hk _)
    simp only [Builtin.append_, h0, h1, List.getElem?_toArray, List.getElem?_cons_zero, List.getElem?_cons_succ, Sem.run_bind, run_und hu, run_und hd, run_size hs, Result.andThen_ok, Sem.run_pure, hm, Bool.false_eq_true, if_false, hn, Bool.not_false, if_true, if_neg hle,
      run_typeInfo' hi, false_or, hb0, and_false, if_neg hbig, hr, run_askRoom, ho', hf', hz', newRow, run_newObj]

theorem HR.drawn (h : HR φ s w) (n : Nat) : HR φ s { w with drawn := n } := ⟨h.obj, h.inj⟩

theorem Goes.of_kill {φ' : Map} {s1 : St} {w' : World} {i : Nat} (hn : s1.next = s.next) (hg : ∀ j, s1.get j = if j = i then none else s.get j) (h : Goes φ s1 w φ' s' w') : Goes φ s w φ' s' w' where
  old j hj := h.old j (by rw [hn]; exact hj)
  next := by rw [← hn]; exact h.next
  fresh j b N h1 h2 hj := by
    rcases h.fresh j b N (by rw [hn]; exact h1) h2 hj with hb | ⟨k, M, a, b, c⟩
    · exact .inl hb
    · refine .inr ⟨k, M, by rw [← hn]; exact a, b, fun e => c ?_⟩
      rw [hg]; split
      · rfl
      · exact e
  dead j hj hs := h.dead j (by rw [hn]; exact hj) (by rw [hg]; split <;> first | rfl | exact hs)
  keeps b hb hidle := h.keeps b hb fun j N hj => by rw [hg]; split <;> first | rfl | exact hidle j N hj
  size := h.size

theorem zeroCells_size (z : Array Value) (n : Nat) : (Builtin.zeroCells z n).size = n * z.size := by simp [Builtin.zeroCells]

theorem appNew_spec {size n : Nat} {l : List V} {v : V} (h : appNew size n l s = some (v, s')) : n ≤ 1000000 ∧ ∃ o k, newC l = some o ∧ s.new o = some (k, s') ∧ v = .sl k 0 n n size := by
  unfold appNew at h
  split at h
  · rename_i hn
    cases ho : newC l with
    | none => rw [ho] at h; cases h
    | some o =>
      rw [ho] at h; simp only at h
      obtain ⟨k, h1, h2⟩ := wNew_spec h
      exact ⟨Nat.le_of_ble_eq_true hn, o, k, rfl, h1, h2⟩
  · cases h

/-- the new row of an append -/
theorem app_row (h : HR φ s w) (hw : Wf s) {size n : Nat} {l : List V} {v : V} {rl : List Value} {z' : Array Value} {e : TypeId} {cap d : Nat} (hf : Free φ s s') (hl : VRs φ l rl) (hlen : l.length = n * size) (h1 : 1 ≤ size) (hz : z'.size = size) (hc : n ≤ cap)
    (hv : appNew size n l s = some (v, s')) :
    ∃ φ', VR φ' v (.slice (some ⟨w.heap.size, 0, none⟩) n cap) ∧ Fine φ s w φ' s' { w with drawn := d, heap := w.heap.push (.cells (rl.toArray ++ Builtin.zeroCells z' (cap - n)) e (0, 0)) } := by
  obtain ⟨_, o, k, ho, hn, rfl⟩ := appNew_spec hv
  have hsz : (rl.toArray ++ Builtin.zeroCells z' (cap - n)).size = cap * size := by
    have h2 := hl.length
    simp only [Array.size_append, List.size_toArray, zeroCells_size, hz]
    rw [h2, hlen, ← Nat.add_mul, show n + (cap - n) = cap by omega]
  have hor := newC_OR (φ := φ) (c := rl.toArray ++ Builtin.zeroCells z' (cap - n)) e (0, 0) (fun x _ hh => by simp only at hh; omega) (.inl rfl) ⟨rl, hl, (Builtin.zeroCells z' (cap - n)).toList, by simp⟩ ho
  rw [hsz] at hor
  have hfr := hf.at (new_spec hn).2.1
  obtain ⟨es, rfl⟩ : ∃ es, size = es + 1 := ⟨size - 1, by omega⟩
  refine ⟨φ.upd k (w.heap.size, cap * (es + 1)), .sls 0 n n es cap (Map.upd_same _ _ _) hc (by omega), new_fine h hw hn hfr rfl hor ⟨rfl, rfl, rfl⟩ h.lt'⟩

theorem wrote_append (h : HR φ s w) (hw : Wf s) {ty : TypeId} {ts : Array TypeId} {x y : Operand} {v : V} {xs : Array Operand} (hxs : xs.toList = [x, y]) (hx : Kn φ ρ ρc x) (hy : Kn φ ρ ρc y) (hv : wAppend ts xs P ρ s = some (v, s')) (hfree : Free φ s s') :
    Wrote P φ s w (do pure (Next.value (← Builtin.append_ ts ty #[ρc x, ρc y]))) v s' := by
  unfold wAppend at hv
  rw [hxs] at hv
  simp only at hv
  cases hxx : ρ x with
  | none => rw [hxx] at hv; cases hv
  | some u =>
  cases hyy : ρ y with
  | none => rw [hxx, hyy] at hv; cases hv
  | some u2 =>
  rw [hxx, hyy] at hv
  simp only at hv
  have hu := hx u hxx
  have hu2 := hy u2 hyy
  generalize ρc x = xc at hu
  generalize ρc y = yc at hu2
  split at hv
  · rename_i hpl
    split at hv
    · rename_i t rest hts
      obtain ⟨h0, h1⟩ := plainApp_spec hts hpl
      cases he : sliceElemT P t with
      | none => rw [he] at hv; cases hv
      | some e =>
      rw [he] at hv; simp only at hv
      have hut := sliceElemT_spec he
      cases hok : okApp P e with
      | none => rw [hok] at hv; cases hv
      | some size =>
      rw [hok] at hv; simp only at hv
      obtain ⟨inf, z, hi, hs, hisz, hb1, hb2, hsz1, hz, hzl⟩ := okApp_spec hok
      cases hnw : newsOf size u2 s with
      | none => rw [hnw] at hv; cases hv
      | some r =>
      obtain ⟨n, news⟩ := r
      rw [hnw] at hv; simp only at hv
      obtain ⟨hnl, hn1, l, hl1, hl2⟩ := newsOf_spec (P := P) h hu2 hnw
      have hllen := hl2.length
      have hzz : ∃ z', ∀ w', (zeroValue e).run P w' = .ok z' w' ∧ z'.cells.size = size := by
        obtain ⟨z', a1, a2⟩ := run_zeroCells (w := w) hz
        have a3 := (a2 φ).length
        refine ⟨z', fun w' => ⟨?_, by simp at a3; omega⟩⟩
        obtain ⟨z'', b1, b2⟩ := run_zeroCells (w := w') hz
        have : ∀ w1 w2 x1 x2, (zeroValue e).run P w1 = .ok x1 w1 → (zeroValue e).run P w2 = .ok x2 w2 → x1 = x2 := by
          intro w1 w2 x1 x2 e1 e2
          simp only [zeroValue, Sem.run_bind, run_typeInfo' hi, Result.andThen_ok] at e1 e2
          cases hzz : inf.zero with
          | none => rw [hzz] at e1; cases e1
          | some q =>
            rw [hzz] at e1 e2
            injection e1 with e1; injection e2 with e2
            rw [← e1, ← e2]
        rw [b1, this w w' z' z'' a1 b1]
      obtain ⟨z', hz'⟩ := hzz
      have hd := h.drawn (w.drawn + 1)
      obtain ⟨_, _, ld, hld1, hld2⟩ := newsOf_spec (P := P) hd hu2 hnw
      unfold appendV at hv
      cases n with
      | zero =>
        simp only at hv
        have hl0 : l = [] := List.eq_nil_of_length_eq_zero (by omega)
        subst hl0
        cases u <;> first | (cases hv; done) | skip
        case sl0 =>
          injection hv with hv; injection hv with q1 q2; subst q1; subst q2
          cases hu
          exact wrote_value (run_append_in (w' := w) h0 h1 hut hs hn1 hl1 (Nat.le_refl _) rfl) .sl0 (Fine.refl h hw)
        case slE =>
          injection hv with hv; injection hv with q1 q2; subst q1; subst q2
          cases hu with
          | slE a cap =>
          exact wrote_value (run_append_in (w' := w) h0 h1 hut hs hn1 hl1 (Nat.zero_le _) rfl) (.slE a cap) (Fine.refl h hw)
        case sl i off len cap es =>
          simp only at hv
          split at hv
          · rename_i hlc
            have hlc := Nat.le_of_ble_eq_true hlc
            injection hv with hv; injection hv with q1 q2; subst q1; subst q2
            have : ∃ b c, xc = .slice (some ⟨b, off, none⟩) len c ∧ len ≤ c := by
              cases hu with
              | slx _ _ _ hφ => exact ⟨_, _, rfl, hlc⟩
              | sls _ _ _ _ _ hφ hc _ => exact ⟨_, _, rfl, Nat.le_trans hlc hc⟩
            obtain ⟨b, c, ea, hle⟩ := this
            subst ea
            exact wrote_value (run_append_in (w' := w) h0 h1 hut hs hn1 hl1 hle rfl) hu (Fine.refl h hw)
          · cases hv
      | succ n =>
        simp only at hv
        cases u <;> first | (cases hv; done) | skip
        case sl0 =>
          simp only at hv
          cases hu
          obtain ⟨hbnd, _⟩ := appNew_spec hv
          obtain ⟨cap, hc, hrun⟩ := run_append_out (P := P) (w := w) (ty := ty) (old := []) (sLen := 0) (sCap := 0) (base := none) h0 h1 hut hs hi hb1 hb2 (by omega) hn1 hld1 (by omega) rfl (fun w' => (hz' w').1)
          rw [Nat.zero_add] at hc hrun
          obtain ⟨φ', r1, r2⟩ := app_row (d := w.drawn + 1) (e := e) (rl := ld) h hw hfree hld2 hnl hsz1 (hz' w).2 hc hv
          refine wrote_value hrun r1 ?_
          simpa using r2
        case sl i off len cap es =>
          simp only at hv
          cases hsi : s.get i with
          | none => rw [hsi] at hv; cases hv
          | some ob =>
          rw [hsi] at hv
          cases ob <;> first | (cases hv; done) | skip
          rename_i t0 m
          simp only at hv
          have : ∃ b N c, xc = .slice (some ⟨b, off, none⟩) len c ∧ φ i = some (b, N) ∧ cap ≤ c ∧ (es = 0 → c = cap) ∧ (∀ es', es = es' + 1 → off + c * (es' + 1) = N) := by
            cases hu with
            | slx _ _ _ hφ => exact ⟨_, _, _, rfl, hφ, Nat.le_refl _, fun _ => rfl, fun _ e => by cases e⟩
            | sls _ _ _ _ _ hφ hc hN => exact ⟨_, _, _, rfl, hφ, hc, (fun e => by cases e), (fun _ e => by injection e with e; subst e; exact hN)⟩
          obtain ⟨b, N, c, ea, hφ, hcc, hex, hNN⟩ := this
          subst ea
          split at hv
          · -- in its place
            rename_i hfit
            have hfit := Nat.le_of_ble_eq_true hfit
            unfold appIn at hv
            obtain ⟨ev, ob, ho, hp⟩ := wPut_spec hv
            subst ev
            obtain ⟨r1, r2⟩ := run_writeC (P := P) h hw hφ hsi ho hl2 hp
            refine wrote_value (run_append_in h0 h1 hut hs hn1 hl1 (by omega) (by simp only [add_mk]; exact r1)) ?_ r2
            cases hu with
            | slx _ _ _ hφ => exact .slx _ _ _ hφ
            | sls _ _ _ _ _ hφ hc hN => exact .sls _ _ _ _ _ hφ hc hN
          · rename_i hfit
            have hfit : ¬ len + (n + 1) ≤ cap := fun hh => by rw [Nat.ble_eq_true_of_le hh] at hfit; cases hfit
            cases hg : t0.getN (len * size) off with
            | none => rw [hg] at hv; cases hv
            | some l0 =>
            rw [hg] at hv; simp only at hv
            have hl0 := (getN_spec t0 _ off _ hg).1
            obtain ⟨o0, ho1, ho2⟩ := run_getN (P := P) hd hφ hsi hg
            have hall : (l0 ++ news).length = (len + (n + 1)) * size := by rw [List.length_append, hl0, hnl, ← Nat.add_mul]
            unfold appOut at hv
            cases es with
            | zero =>
              simp only at hv
              have := hex rfl
              subst this
              obtain ⟨hbnd, _⟩ := appNew_spec hv
              obtain ⟨cp, hc, hrun⟩ := run_append_out (P := P) (w := w) (ty := ty) (old := o0) (sLen := len) (sCap := c) (base := some ⟨b, off, none⟩) h0 h1 hut hs hi hb1 hb2 hbnd hn1 hld1 hfit ho1 (fun w' => (hz' w').1)
              obtain ⟨φ', r1, r2⟩ := app_row (d := w.drawn + 1) (e := e) (rl := o0 ++ ld) h hw hfree (ho2.append hld2) hall hsz1 (hz' w).2 hc hv
              refine wrote_value hrun r1 ?_
              simpa using r2
            | succ es =>
              simp only at hv
              split at hv
              · rename_i hcond
                simp only [Bool.and_eq_true] at hcond
                have c1 := Nat.eq_of_beq_eq_true hcond.1
                have c2 := Nat.eq_of_beq_eq_true hcond.2.1
                have c3 := Nat.le_of_ble_eq_true hcond.2.2
                subst c1; subst c2
                cases hp : s.put i none with
                | none => rw [hp] at hv; cases hv
                | some s1 =>
                rw [hp] at hv; simp only at hv
                obtain ⟨k1, k2, k3, k4⟩ := kill_fine h hw hsi hp
                have hfree1 : Free φ s1 s' := fun j a b => hfree j (by rw [← k3]; exact a) b
                obtain ⟨hbnd, o, k, hoo, hnn, hvv⟩ := appNew_spec hv
                by_cases hin : len + (n + 1) ≤ c
                · -- there is room: the same block
                  obtain ⟨cs, ty0, fz, hcb, hcN, hmN, hcs, hfz, hfz2⟩ := h.cells hφ hsi
                  have hN0 := hNN es rfl
                  rw [Nat.zero_add] at hN0
                  have hroom : len * (es + 1) + l.length ≤ cs.size := by
                    rw [hllen, hnl, ← Nat.add_mul, hcN, ← hN0]; exact Nat.mul_le_mul_right _ hin
                  obtain ⟨cs', e1, e2, e3⟩ := setCells_at b l (len * (es + 1)) w cs ty0 fz hcb hroom
                  obtain ⟨hk1, hk2, hk3⟩ := new_spec hnn
                  have hkn : φ k = none := by rw [hk1, k3]; exact hfree _ (Nat.le_refl _) (by omega)
                  have hsub := Map.upd_sub (x := (b, N)) hkn
                  have hor : OR φ N o (.cells cs' ty0 fz) := by
                    unfold newC at hoo
                    split at hoo
                    · cases ht : Tr.ofL (l0 ++ news) with
                      | none => rw [ht] at hoo; cases hoo
                      | some tt =>
                        rw [ht] at hoo; injection hoo with hoo; subst hoo
                        have hpn := putN_spec (l0 ++ news) .e tt 0 ht
                        refine .cells (by omega) (by rw [hall, ← hN0]; exact Nat.mul_le_mul_right _ hin) (fun j v hj => ?_) hfz hfz2
                        rw [hpn j] at hj
                        split at hj
                        · rename_i hr
                          rw [Nat.sub_zero] at hj
                          rw [e3]
                          by_cases hjl : j < l0.length
                          · rw [if_neg (by omega)]
                            rw [List.getElem?_append_left hjl] at hj
                            have := (getN_spec t0 _ 0 _ hg).2 j (by omega)
                            rw [Nat.zero_add, hj] at this
                            exact hcs j v this
                          · rw [List.getElem?_append_right (by omega)] at hj
                            have hlt : j - l0.length < news.length := (List.getElem?_eq_some_iff.1 hj).1
                            rw [if_pos (by omega)]
                            obtain ⟨v', q1, q2⟩ := hl2.get hj
                            exact ⟨v', by rw [← q1, hl0], q2⟩
                        · rw [get_e] at hj; cases hj
                    · cases hoo
                  have hone := okCells_one (φ := φ) (l := news) (l' := l) (by
                    unfold newC at hoo
                    split at hoo
                    · rename_i hokc
                      have : ∀ (a b : List V), okCells (a ++ b) = true → okCells b = true := by
                        intro a
                        induction a with
                        | nil => intro b h; exact h
                        | cons q a ih => intro b h; simp only [List.cons_append, okCells] at h; split at h <;> first | exact ih b h | cases h
                      exact this _ _ hokc
                    · cases hoo) hl2
                  have hst : (storeCells ⟨b, len * (es + 1), none⟩ l).run P w = .ok () (w.setCells b (len * (es + 1)) l) := by
                    have := run_storeCells_cells (P := P) b (len * (es + 1)) l 0 w (fun j hj => ?_) (fun j hj => ?_) hone
                    · simpa using this
                    · rw [cell_at hcb, Array.getElem?_eq_getElem (by omega)]; rfl
                    · simp only [World.frozen?, hcb]
                      obtain ⟨f1, f2⟩ := fz
                      have := hfz (len * (es + 1) + 0 + j) (by omega)
                      simp only at this ⊢
                      cases hd : decide (f1 ≤ len * (es + 1) + 0 + j) <;> cases hd' : decide (len * (es + 1) + 0 + j < f2) <;> first | rfl | skip
                      exact absurd ⟨of_decide_eq_true hd, of_decide_eq_true hd'⟩ this
                  have hsnext : s.next = k := by omega
                  refine wrote_value (φ' := φ.upd k (b, N)) (run_append_in h0 h1 hut hs hn1 hl1 hin (by simp only [add_mk, Nat.zero_add]; exact hst)) ?_ ⟨⟨fun j b' N' oj hj hgj => ?_, fun j j2 b' M M' hj hj2 hgj hgj2 => ?_⟩, ⟨fun j hj => ?_, by omega, fun j b' M a1 a2 hj => ?_, fun j hj hgj => ?_, fun b' hb hidle => ?_, by rw [setCells_size]; exact Nat.le_refl _⟩, setCells_calm _ _ _ _, k2.new hnn⟩
                  · rw [hvv]; exact .sls 0 _ _ es c (Map.upd_same _ _ _) hin (by omega)
                  · rw [hk3] at hgj
                    by_cases ej : j = k
                    · subst ej
                      rw [if_pos rfl] at hgj; injection hgj with hgj; subst hgj
                      rw [Map.upd_same] at hj; injection hj with hj; injection hj with q1 q2; subst q1; subst q2
                      exact ⟨_, e1, hor.mono hsub⟩
                    · rw [if_neg ej, k4] at hgj
                      unfold Map.upd at hj
                      rw [if_neg ej] at hj
                      by_cases eji : j = i
                      · rw [if_pos eji] at hgj; cases hgj
                      · rw [if_neg eji] at hgj
                        obtain ⟨cj, c1, c2⟩ := h.obj j b' N' oj hj hgj
                        refine ⟨cj, ?_, c2.mono hsub⟩
                        rw [setCells_other b l _ w b' (fun eb => eji (h.inj j i b N' N (eb ▸ hj) hφ (by rw [hgj]; simp) (by rw [hsi]; simp)))]
                        exact c1
                  · have alive : ∀ q, q ≠ k → s'.get q ≠ none → q ≠ i ∧ s.get q ≠ none := by
                      intro q hq hgq
                      rw [hk3, if_neg hq, k4] at hgq
                      by_cases eq : q = i
                      · rw [if_pos eq] at hgq; exact absurd rfl hgq
                      · rw [if_neg eq] at hgq; exact ⟨eq, hgq⟩
                    unfold Map.upd at hj hj2
                    by_cases ej : j = k <;> by_cases ej2 : j2 = k
                    · rw [ej, ej2]
                    · rw [if_pos ej] at hj; rw [if_neg ej2] at hj2
                      injection hj with hj; injection hj with q1 q2
                      obtain ⟨a1, a2⟩ := alive j2 ej2 hgj2
                      exact absurd (h.inj j2 i b M' N (q1 ▸ hj2) hφ a2 (by rw [hsi]; simp)) a1
                    · rw [if_neg ej] at hj; rw [if_pos ej2] at hj2
                      injection hj2 with hj2; injection hj2 with q1 q2
                      obtain ⟨a1, a2⟩ := alive j ej hgj
                      exact absurd (h.inj j i b M N (q1 ▸ hj) hφ a2 (by rw [hsi]; simp)) a1
                    · rw [if_neg ej] at hj; rw [if_neg ej2] at hj2
                      exact h.inj j j2 b' M M' hj hj2 (alive j ej hgj).2 (alive j2 ej2 hgj2).2
                  · unfold Map.upd; rw [if_neg (by omega)]
                  · have : j = k := by omega
                    subst this
                    rw [Map.upd_same] at hj; injection hj with hj; injection hj with q1 q2; subst q1
                    exact .inr ⟨i, N, hw.lt hsi, hφ, by rw [hsi]; simp⟩
                  · rw [hk3, if_neg (by omega), k4]
                    split
                    · rfl
                    · exact hgj
                  · refine setCells_other b l _ w b' fun e => ?_
                    subst e
                    have := hidle i N hφ
                    rw [hsi] at this; cases this
                · obtain ⟨cp, hc, hrun⟩ := run_append_out (P := P) (w := w) (ty := ty) (old := o0) (sLen := len) (sCap := c) (base := some ⟨b, 0, none⟩) h0 h1 hut hs hi hb1 hb2 hbnd hn1 hld1 hin ho1 (fun w' => (hz' w').1)
                  obtain ⟨φ', r1, r2⟩ := app_row (d := w.drawn + 1) (e := e) (rl := o0 ++ ld) k1 k2 hfree1 (ho2.append hld2) hall hsz1 (hz' w).2 hc hv
                  refine wrote_value hrun r1 ?_
                  have r3 : Fine φ s w φ' s' _ := ⟨r2.rel, r2.goes.of_kill k3 k4, r2.calm, r2.wf⟩
                  simpa using r3
              · cases hv
    · cases hv
  · cases hv

end Go.AM

namespace Go.AM

variable {P : Program} {φ : Map} {ρ : Rho} {ρc : Operand → Value} {w : World} {s s' : St}

theorem getN_take {α : Type} (t : Tr α) : ∀ (k k' off : Nat) (l : List α), t.getN k off = some l → k' ≤ k → t.getN k' off = some (l.take k') := by
  intro k
  induction k with
  | zero => intro k' off l h hk; have : k' = 0 := by omega
            subst this; rfl
  | succ k ih =>
    intro k' off l h hk
    cases k' with
    | zero => rfl
    | succ k' =>
      have h' : (match t.get off with
        | some v => match t.getN k (Nat.succ off) with
          | some l => some (v :: l)
          | none => none
        | none => none) = some l := h
      cases hg : t.get off with
      | none => rw [hg] at h'; simp at h'
      | some v =>
        rw [hg] at h'; simp only at h'
        cases hn : t.getN k (Nat.succ off) with
        | none => rw [hn] at h'; simp at h'
        | some l' =>
          rw [hn] at h'; simp at h'; subst h'
          have := ih k' _ _ hn (by omega)
          show (match t.get off with
            | some v => match t.getN k' (Nat.succ off) with
              | some l => some (v :: l)
              | none => none
            | none => none) = _
          rw [hg, this]; rfl

theorem newsOf_take (h : HR φ s w) {size n n' : Nat} {x : V} {x' : Value} {news : List V} (hx : VR φ x x') (hn : newsOf size x s = some (n, news)) (hle : n' ≤ n) :
    ∃ l : List Value, (Builtin.firstCells size n' x').run P w = .ok l.toArray w ∧ VRs φ (news.take (n' * size)) l := by
  unfold newsOf at hn
  cases x <;> first | (cases hn; done) | skip
  case sl0 => injection hn with hn; injection hn with h1 h2; subst h1; subst h2; cases hx; exact ⟨[], rfl, by simp; exact .nil⟩
  case slE =>
    injection hn with hn; injection hn with h1 h2; subst h1; subst h2; cases hx
    have : n' = 0 := by omega
    subst this
    exact ⟨[], by simp [Builtin.firstCells, loadCells, loadCellsFrom], by simp; exact .nil⟩
  case sl i off len cap es =>
    simp only at hn
    cases hs : s.get i with
    | none => rw [hs] at hn; cases hn
    | some ob =>
      rw [hs] at hn
      cases ob <;> first | (cases hn; done) | skip
      rename_i t m
      simp only at hn
      cases hg : t.getN (len * size) off with
      | none => rw [hg] at hn; cases hn
      | some l =>
        rw [hg] at hn; injection hn with hn; injection hn with h1 h2; subst h1; subst h2
        have : ∃ b N c, x' = .slice (some ⟨b, off, none⟩) len c ∧ φ i = some (b, N) := by
          cases hx with
          | slx _ _ _ hφ => exact ⟨_, _, _, rfl, hφ⟩
          | sls _ _ _ _ _ hφ _ _ => exact ⟨_, _, _, rfl, hφ⟩
        obtain ⟨b, N, c, ea, hφ⟩ := this
        subst ea
        exact run_getN (P := P) h hφ hs (getN_take t _ _ _ _ hg (Nat.mul_le_mul_right _ hle))
  case str st =>
    simp only at hn
    split at hn
    · rename_i hone
      have hone := Nat.eq_of_beq_eq_true hone
      injection hn with hn; injection hn with h1 h2; subst h1; subst h2
      cases hx
      refine ⟨(st.data.toList.take n').map fun b => Value.int .u8 b.toNat, ?_, ?_⟩
      · have e : (st.extract 0 n').data.toList = st.data.toList.take n' := by rw [Lib.extract_data, List.drop_zero, Nat.sub_zero]
        simp only [Builtin.firstCells]
        show Result.ok _ w = Result.ok _ w
        congr 1
        apply Array.ext'
        rw [Array.toList_map, e]
      · rw [hone, Nat.mul_one, ← List.map_take]
        refine VRs.of_get (by simp) fun j v hj => ?_
        simp only [List.getElem?_map] at hj ⊢
        cases hg : (st.data.toList.take n')[j]? with
        | none => rw [hg] at hj; cases hj
        | some b => rw [hg] at hj; injection hj with hj; subst hj; exact ⟨_, rfl, .int _ _⟩
    · cases hn

theorem wrote_copy (h : HR φ s w) (hw : Wf s) {ty : TypeId} {ts : Array TypeId} {x y : Operand} {v : V} {xs : Array Operand} (hxs : xs.toList = [x, y]) (hx : Kn φ ρ ρc x) (hy : Kn φ ρ ρc y) (hv : wCopy ts xs P ρ s = some (v, s')) :
    Wrote P φ s w (do pure (Next.value (← Builtin.copy_ ts ty #[ρc x, ρc y]))) v s' := by
  unfold wCopy at hv
  rw [hxs] at hv
  simp only at hv
  cases hxx : ρ x with
  | none => rw [hxx] at hv; cases hv
  | some u =>
  rw [hxx] at hv
  have hu := hx u hxx
  generalize ρc x = xc at hu
  cases u <;> first | (cases hv; done) | skip
  rename_i i off len cap es
  simp only at hv
  cases hyy : ρ y with
  | none => rw [hyy] at hv; cases hv
  | some u2 =>
  rw [hyy] at hv; simp only at hv
  have hu2 := hy u2 hyy
  generalize ρc y = yc at hu2
  split at hv
  · rename_i t rest hts
    have h0 : ts[0]? = some t := by rw [← Array.getElem?_toList, hts]; rfl
    cases he : sliceElemT P t with
    | none => rw [he] at hv; cases hv
    | some e =>
    rw [he] at hv; simp only at hv
    have hut := sliceElemT_spec he
    cases hs : sizeT P e with
    | none => rw [hs] at hv; cases hv
    | some size =>
    rw [hs] at hv; simp only at hv
    cases hnw : newsOf size u2 s with
    | none => rw [hnw] at hv; cases hv
    | some r =>
    obtain ⟨n, news⟩ := r
    rw [hnw] at hv; simp only at hv
    cases hsi : s.get i with
    | none => rw [hsi] at hv; cases hv
    | some ob =>
    rw [hsi] at hv
    cases ob <;> first | (cases hv; done) | skip
    rename_i tr m
    simp only at hv
    obtain ⟨ev, ob, ho, hp⟩ := wPut_spec hv
    subst ev
    have : ∃ b N c, xc = .slice (some ⟨b, off, none⟩) len c ∧ φ i = some (b, N) := by
      cases hu with
      | slx _ _ _ hφ => exact ⟨_, _, _, rfl, hφ⟩
      | sls _ _ _ _ _ hφ _ _ => exact ⟨_, _, _, rfl, hφ⟩
    obtain ⟨b, N, c, ea, hφ⟩ := this
    subst ea
    obtain ⟨_, hn1, _⟩ := newsOf_spec (P := P) h hu2 hnw
    obtain ⟨l, hl1, hl2⟩ := newsOf_take (P := P) (n' := Nat.min n len) h hu2 hnw (Nat.min_le_left _ _)
    obtain ⟨r1, r2⟩ := run_writeC (P := P) h hw hφ hsi ho hl2 hp
    refine wrote_value (v' := goInt (Nat.min n len)) ?_ (.int _ _) r2
    simp only [Builtin.copy_, h0, List.getElem?_toArray, List.getElem?_cons_zero, List.getElem?_cons_succ, Sem.run_bind, run_und hut, run_size hs, hn1, hl1, Result.andThen_ok, r1, Sem.run_pure]
  · cases hv

/-! ### all together -/

theorem cl_write_convert {sr d : TypeId} {x : Operand} {f : WriteF} (h : convCl sr d x P = .write f) : f = wConv sr d x := by
  unfold convCl at h
  split at h
  · split at h <;> cases h
  · split at h
    · injection h with h; exact h.symm
    · cases h
    · cases h
  · split at h <;> cases h
  · split at h <;> cases h
  · cases h

theorem two_of {α : Type} {xs : Array Operand} {r : α} {f : Operand → Operand → Option α} (h : (match xs.toList with | [x, y] => f x y | _ => none) = some r) : ∃ x y, xs.toList = [x, y] := by
  split at h
  · exact ⟨_, _, by assumption⟩
  · cases h

theorem write_sound {o : Oper} {f : WriteF} {v : V} (hc : cl o.op P = .write f) (hk : ∀ x ∈ o.op.operands.toList, Kn φ ρ ρc x) (h : HR φ s w) (hw : Wf s) (hv : f P ρ s = some (v, s')) (hf : Free φ s s') :
    Wrote P φ s w (execOp ρc o) v s' := by
  obtain ⟨dst, op, ty, pos, after, guard⟩ := o
  simp only at hc hk
  cases op <;> simp only [cl] at hc
  case store t x y => injection hc with hc; subst hc; exact wrote_store h hw (hk x (by simp [Op.operands])) (hk y (by simp [Op.operands])) hv
  case mapUpdate t x y z => injection hc with hc; subst hc; exact wrote_map h hw (hk x (by simp [Op.operands])) (hk y (by simp [Op.operands])) (hk z (by simp [Op.operands])) hv
  case insert t x y z => injection hc with hc; subst hc; exact wrote_map h hw (hk x (by simp [Op.operands])) (hk y (by simp [Op.operands])) (hk z (by simp [Op.operands])) hv
  case range t x => injection hc with hc; subst hc; exact wrote_range h hw (hk x (by simp [Op.operands])) hv hf
  case next x b => injection hc with hc; subst hc; exact wrote_next h hw (hk x (by simp [Op.operands])) hv
  case entry x => injection hc with hc; subst hc; exact wrote_entry h hw (hk x (by simp [Op.operands])) hv
  case convert sr d x =>
    have := cl_write_convert hc
    subst this
    exact wrote_conv h hw (hk x (by simp [Op.operands])) hv
  case call c =>
    unfold callCl at hc
    split at hc
    · rename_i bi hb
      have key : ∀ {sm : Sem Value} {xs : Array Value}, c.args.map ρc = xs → (∀ consts, builtin bi c.argTypes ty consts xs = (do pure (Next.value (← sm)))) → Wrote P φ s w (do pure (Next.value (← sm))) v s' →
          Wrote P φ s w (execOp ρc ⟨dst, .call c, ty, pos, after, guard⟩) v s' := by
        intro sm xs e1 e2 ⟨φ', w', r, v', a1, a2⟩
        refine ⟨φ', w', r, v', ?_, a2⟩
        simp only [execOp, resolve, hb, Sem.run_bind, Sem.run_pure, Result.andThen_ok, invoke, e1]
        rw [e2]; exact a1
      cases bi <;> simp only [builtinCl] at hc <;> first | (cases hc; done) | skip
      case append =>
        injection hc with hc; subst hc
        obtain ⟨x, y, hxs⟩ : ∃ x y, c.args.toList = [x, y] := by
          unfold wAppend at hv; split at hv
          · exact ⟨_, _, by assumption⟩
          · cases hv
        exact key (by apply Array.ext'; simp [hxs]) (fun _ => rfl) (wrote_append h hw hxs (hk x (by simp [Op.operands, Call.operands, hb, ← Array.mem_toList_iff, hxs])) (hk y (by simp [Op.operands, Call.operands, hb, ← Array.mem_toList_iff, hxs])) hv hf)
      case copy =>
        injection hc with hc; subst hc
        obtain ⟨x, y, hxs⟩ : ∃ x y, c.args.toList = [x, y] := by
          unfold wCopy at hv; split at hv
          · exact ⟨_, _, by assumption⟩
          · cases hv
        exact key (by apply Array.ext'; simp [hxs]) (fun _ => rfl) (wrote_copy h hw hxs (hk x (by simp [Op.operands, Call.operands, hb, ← Array.mem_toList_iff, hxs])) (hk y (by simp [Op.operands, Call.operands, hb, ← Array.mem_toList_iff, hxs])) hv)
      case clear =>
        injection hc with hc; subst hc
        obtain ⟨x, hxs⟩ : ∃ x, c.args.toList = [x] := by
          unfold wClear at hv; split at hv
          · exact ⟨_, by assumption⟩
          · cases hv
        exact key (by apply Array.ext'; simp [hxs]) (fun _ => rfl) (wrote_clear h hw hxs (hk x (by simp [Op.operands, Call.operands, hb, ← Array.mem_toList_iff, hxs])) hv)
      case delete =>
        injection hc with hc; subst hc
        obtain ⟨x, y, hxs⟩ : ∃ x y, c.args.toList = [x, y] := by
          unfold wDelete at hv; split at hv
          · exact ⟨_, _, by assumption⟩
          · cases hv
        exact key (by apply Array.ext'; simp [hxs]) (fun _ => rfl) (wrote_delete (t := 0) h hw hxs (hk x (by simp [Op.operands, Call.operands, hb, ← Array.mem_toList_iff, hxs])) (hk y (by simp [Op.operands, Call.operands, hb, ← Array.mem_toList_iff, hxs])) hv)
      case len => rcases lenCl_pr (P := P) (ts := c.argTypes) (xs := c.args) with ⟨f, e⟩ | ⟨f, e⟩ | e <;> rw [e] at hc <;> cases hc
    · cases hc
    · cases hc
  case defer c => unfold deferCl at hc; split at hc <;> cases hc
  all_goals (cases hc)

end Go.AM

namespace Go.AM

variable {P : Program} {ρ : Rho} {s s' : St}

/-! ### numbers only grow -/

theorem wPut_next {v v' : V} {i : Nat} {o : Option O} (h : wPut v s i o = some (v', s')) : s.next ≤ s'.next := by
  obtain ⟨_, ob, _, hp⟩ := wPut_spec h
  rw [put_next hp]; exact Nat.le_refl _

theorem wNew_next {l : Lead} {o : O} {v : V} (h : wNew l (s.new o) = some (v, s')) : s.next ≤ s'.next := by
  obtain ⟨i, hn, _⟩ := wNew_spec h
  rw [(new_spec hn).2.1]; omega

theorem same_next {v v' : V} (h : some (v, s) = some (v', s')) : s.next ≤ s'.next := by
  injection h with h; injection h with _ h; subst h; exact Nat.le_refl _

theorem appNew_next {size n : Nat} {l : List V} {v : V} (h : appNew size n l s = some (v, s')) : s.next ≤ s'.next := by
  obtain ⟨_, o, k, _, hn, _⟩ := appNew_spec h
  rw [(new_spec hn).2.1]; omega

theorem appOut_next {i off len es size n m : Nat} {news l : List V} {v : V} (h : appOut i off len es size n news l s m = some (v, s')) : s.next ≤ s'.next := by
  unfold appOut at h
  split at h
  · exact appNew_next h
  · split at h
    · split at h
      · rename_i s1 hp
        have := appNew_next h
        rw [put_next hp] at this; exact this
      · cases h
    · cases h

theorem appendV_next {size n : Nat} {x v : V} {news : List V} (h : appendV size x n news s = some (v, s')) : s.next ≤ s'.next := by
  unfold appendV at h
  (repeat' split at h) <;> first | (cases h; done) | exact same_next h | exact appNew_next h | exact wPut_next h | exact appOut_next h

theorem write_next {o : Op} {f : WriteF} {v : V} (hc : cl o P = .write f) (h : f P ρ s = some (v, s')) : s.next ≤ s'.next := by
  cases o <;> simp only [cl] at hc
  case store t x y => injection hc with hc; subst hc; unfold wStore at h; (repeat' split at h) <;> first | (cases h; done) | exact wPut_next h
  case mapUpdate t x y z => injection hc with hc; subst hc; unfold wMap at h; (repeat' split at h) <;> first | (cases h; done) | exact wPut_next h
  case insert t x y z => injection hc with hc; subst hc; unfold wMap at h; (repeat' split at h) <;> first | (cases h; done) | exact wPut_next h
  case range t x => injection hc with hc; subst hc; unfold wRange at h; (repeat' split at h) <;> first | (cases h; done) | exact wNew_next h
  case next x b => injection hc with hc; subst hc; unfold wNext at h; (repeat' split at h) <;> first | (cases h; done) | exact same_next h | exact wPut_next h
  case entry x => injection hc with hc; subst hc; unfold wEntry at h; (repeat' split at h) <;> first | (cases h; done) | exact same_next h
  case convert sr d x => have := cl_write_convert hc; subst this; unfold wConv at h; (repeat' split at h) <;> first | (cases h; done) | exact same_next h
  case call c =>
    unfold callCl at hc
    split at hc
    · rename_i bi hb
      cases bi <;> simp only [builtinCl] at hc <;> first | (cases hc; done) | skip
      case append => injection hc with hc; subst hc; unfold wAppend at h; (repeat' split at h) <;> first | (cases h; done) | exact appendV_next h
      case copy => injection hc with hc; subst hc; unfold wCopy at h; (repeat' split at h) <;> first | (cases h; done) | exact wPut_next h
      case clear => injection hc with hc; subst hc; unfold wClear at h; (repeat' split at h) <;> first | (cases h; done) | exact wPut_next h
      case delete => injection hc with hc; subst hc; unfold wDelete at h; (repeat' split at h) <;> first | (cases h; done) | exact same_next h | exact wPut_next h
      case len => rcases lenCl_pr (P := P) (ts := c.argTypes) (xs := c.args) with ⟨f, e⟩ | ⟨f, e⟩ | e <;> rw [e] at hc <;> cases hc
    · cases hc
    · cases hc
  case defer c => unfold deferCl at hc; split at hc <;> cases hc
  all_goals (cases hc)

end Go.AM
