/-
  Proves that a run under guesses is the run where the guesses hold, and that a run from nothing at all leaves memory alone.
-/
import Derived.Test.YtdboceaccgiklaaGreatKnown
set_option linter.all false
namespace Go.AM

variable {P : Program} {K : Known}

/-! ### runs under guesses: a truth that hangs on what isn't known is guessed, and the guess is told -/

/-- what is to be shown of a run under guesses -/
inductive Ob where
  | b (x d : Bool)
  | v (x y : Option V)

def Ob.ok : Ob → Prop
  | .b x d => x = d
  | .v x y => x = y

def Obs (l : List Ob) : Prop := ∀ o ∈ l, o.ok

def bools : List Ob → List (Bool × Bool)
  | [] => []
  | .b x d :: l => (x, d) :: bools l
  | .v _ _ :: l => bools l
def seens : List Ob → List (Option V)
  | [] => []
  | .b _ _ :: l => seens l
  | .v x _ :: l => x :: seens l
def wants : List Ob → List (Option V)
  | [] => []
  | .b _ _ :: l => wants l
  | .v _ y :: l => y :: wants l

theorem Obs.of : ∀ {l : List Ob}, (∀ p ∈ bools l, p.1 = p.2) → seens l = wants l → Obs l
  | [], _, _, o, ho => by cases ho
  | .b x d :: l, h1, h2, o, ho => by
    cases ho with
    | head => exact h1 (x, d) (List.mem_cons_self ..)
    | tail _ ho => exact Obs.of (l := l) (fun p hp => h1 p (List.mem_cons_of_mem _ hp)) h2 o ho
  | .v x y :: l, h1, h2, o, ho => by
    simp only [seens, wants, List.cons.injEq] at h2
    cases ho with
    | head => exact h2.1
    | tail _ ho => exact Obs.of (l := l) h1 h2.2 o ho

abbrev Gs := List (Nat × Bool)

def findG : Gs → Nat → Option Bool
  | [], _ => none
  | (t, d) :: l, i => match Nat.beq t i with
    | true => some d
    | false => findG l i

def patch (gs : Gs) (dst : Option Tmp) (a : A) (acc : List Ob) : Option (A × List Ob) := match dst with
  | none => some (a, acc)
  | some t => match findG gs t with
    | none => some (a, acc)
    | some d => match a.tm t with
      | .bool b => match a.put (some t) (.bool d) with
        | some a' => some (a', .b b d :: acc)
        | none => none
      | _ => some (a, acc)

theorem setF_get {α : Type} (x : α) : ∀ (f : Nat) (t t' : Tr α) (i : Nat), Tr.getF f t i = some x → Tr.setF (some x) f t i = some t' → t' = t := by
  intro f
  induction f with
  | zero => intro t t' i h; cases h
  | succ f ih =>
    intro t t' i h h'
    cases t with
    | e => cases h
    | n l o r =>
      have g : Tr.getN' (Tr.getF f) l o r i = some x := h
      have g' : Tr.setN (some x) (Tr.setF (some x) f) l o r i = some t' := h'
      clear h h'
      unfold Tr.getN' at g
      unfold Tr.setN at g'
      cases h0 : Nat.beq i (nat_lit 0) with
      | true =>
        rw [h0] at g g'
        have g : o = some x := g
        have g' : some (Tr.n l (some x) r) = some t' := g'
        subst g; injection g' with g'; exact g'.symm
      | false =>
        rw [h0] at g g'
        cases h1 : Nat.beq (Nat.mod i (nat_lit 2)) (nat_lit 1) with
        | true =>
          rw [h1] at g g'
          have g : Tr.getF f l (Nat.div i (nat_lit 2)) = some x := g
          have g' : Tr.inL o r (Tr.setF (some x) f l (Nat.div i (nat_lit 2))) = some t' := g'
          cases hs : Tr.setF (some x) f l (Nat.div i (nat_lit 2)) with
          | none => rw [hs] at g'; cases g'
          | some l' =>
            rw [hs] at g'
            have g' : some (Tr.n l' o r) = some t' := g'
            injection g' with g'; rw [← g', ih _ _ _ g hs]
        | false =>
          rw [h1] at g g'
          have g : Tr.getF f r (Nat.pred (Nat.div i (nat_lit 2))) = some x := g
          have g' : Tr.inR l o (Tr.setF (some x) f r (Nat.pred (Nat.div i (nat_lit 2)))) = some t' := g'
          cases hs : Tr.setF (some x) f r (Nat.pred (Nat.div i (nat_lit 2))) with
          | none => rw [hs] at g'; cases g'
          | some r' =>
            rw [hs] at g'
            have g' : some (Tr.n l o r') = some t' := g'
            injection g' with g'; rw [← g', ih _ _ _ g hs]

theorem put_tm {a a' : A} {t : Nat} {b : Bool} (h : a.tm t = .bool b) (hp : a.put (some t) (.bool b) = some a') : a' = a := by
  obtain ⟨tr, n, ds⟩ := a
  have h : (match tr.get t with
    | some v => v
    | none => V.undef) = .bool b := h
  cases hg : tr.get t with
  | none => rw [hg] at h; cases h
  | some v =>
    rw [hg] at h; simp only at h; subst h
    simp only [A.put] at hp
    unfold setT at hp
    cases hb : Nat.ble (Nat.succ t) n with
    | false => rw [hb] at hp; simp at hp
    | true =>
      rw [hb] at hp; simp only at hp
      cases hs : tr.set t (some (.bool b)) with
      | none => rw [hs] at hp; cases hp
      | some tr' =>
        rw [hs] at hp; simp only at hp; injection hp with hp
        rw [← hp, setF_get _ _ _ _ _ hg hs]

theorem patch_spec {gs : Gs} {dst : Option Tmp} {a a' : A} {acc acc' : List Ob} (h : patch gs dst a acc = some (a', acc')) : (∀ o ∈ acc, o ∈ acc') ∧ (Obs acc' → a' = a) := by
  unfold patch at h
  have same : ∀ {a' acc'}, some (a, acc) = some (a', acc') → (∀ o ∈ acc, o ∈ acc') ∧ (Obs acc' → a' = a) := by
    intro a' acc' h
    injection h with h; injection h with e1 e2; subst e1; subst e2
    exact ⟨fun _ h => h, fun _ => rfl⟩
  split at h
  · exact same h
  · split at h
    · exact same h
    · split at h
      · rename_i t _ d _ _ b hb
        split at h
        · rename_i a1 hp
          injection h with h; injection h with e1 e2; subst e1; subst e2
          refine ⟨fun o ho => List.mem_cons_of_mem _ ho, fun ho => ?_⟩
          have : b = d := ho _ (List.mem_cons_self ..)
          subst this
          exact put_tm hb hp
        · cases h
      · exact same h

abbrev ThreeG := Option (A × St × List Ob)
abbrev CallG := Option (V × St × List Ob)

/-- functions that are run under guesses, with the guesses -/
abbrev Fs := List (Nat × Gs)
def findFs : Fs → Nat → Option Gs
  | [], _ => none
  | (t, d) :: l, i => match Nat.beq t i with
    | true => some d
    | false => findFs l i

abbrev CG := FuncId → Gs → List V → St → List Ob → CallG

/-- calls under guesses tell the truth -/
def CGOK (e : Ev) (cg : CG) : Prop := ∀ f g args s acc v s' acc', cg f g args s acc = some (v, s', acc') → (∀ o ∈ acc, o ∈ acc') ∧ (Obs acc' → e.call f args s = some (v, s'))

def liftG (acc : List Ob) (r : Option (V × St)) : CallG := match r with
  | some (v, s) => some (v, s, acc)
  | none => none

def callOpG (u : Sur) (fs : Fs) (cg : CG) (f : Operand) (xs : Array Operand) (a : A) (s : St) (acc : List Ob) : CallG :=
  match evF f a with
  | some (.fn f first cap) => match evs a xs.toList with
    | some l => match findFs fs f with
      | some g => match u.K f with
        | some _ => none
        | none => cg f g (first ++ (l ++ cap)) s acc
      | none => liftG acc (callFn u f (first ++ (l ++ cap)) s)
    | none => none
  | _ => none

def outVSG (a : A) (d : Option Tmp) (r : CallG) : ThreeG := match r with
  | some (v, s, acc) => match a.put d v with
    | some a => some (a, s, acc)
    | none => none
  | none => none

def lift2G (acc : List Ob) (r : Two) : ThreeG := match r with
  | some (a, s) => some (a, s, acc)
  | none => none

def op1G (P : Program) (u : Sur) (fs : Fs) (cg : CG) (dst : Option Tmp) (a : A) (s : St) (acc : List Ob) : Cl → ThreeG
  | .call f xs => outVSG a dst (callOpG u fs cg f xs a s acc)
  | c => lift2G acc (op1 P u dst a s c)

theorem liftG_spec {acc acc' : List Ob} {r : Option (V × St)} {v : V} {s' : St} (h : liftG acc r = some (v, s', acc')) : (∀ o ∈ acc, o ∈ acc') ∧ r = some (v, s') := by
  cases r with
  | none => cases h
  | some q =>
    obtain ⟨v1, s1⟩ := q
    simp only [liftG] at h
    injection h with h; injection h with e1 h; injection h with e2 e3; subst e1; subst e2; subst e3
    exact ⟨fun _ h => h, rfl⟩

theorem lift2G_spec {acc acc' : List Ob} {r : Two} {a' : A} {s' : St} (h : lift2G acc r = some (a', s', acc')) : (∀ o ∈ acc, o ∈ acc') ∧ r = some (a', s') := by
  cases r with
  | none => cases h
  | some q =>
    obtain ⟨v1, s1⟩ := q
    simp only [lift2G] at h
    injection h with h; injection h with e1 h; injection h with e2 e3; subst e1; subst e2; subst e3
    exact ⟨fun _ h => h, rfl⟩

theorem callOpG_spec {u : Sur} {fs : Fs} {cg : CG} (hcg : CGOK u.e cg) {f : Operand} {xs : Array Operand} {a : A} {s s' : St} {v : V} {acc acc' : List Ob} (h : callOpG u fs cg f xs a s acc = some (v, s', acc')) : (∀ o ∈ acc, o ∈ acc') ∧ (Obs acc' → callOp u f xs a s = some (v, s')) := by
  obtain ⟨P, K, e, r⟩ := u
  unfold callOpG at h
  unfold callOp
  split at h
  · rename_i f first cap hf
    simp only [hf]
    split at h
    · rename_i l hl
      simp only [hl]
      split at h
      · rename_i g hg
        split at h
        · cases h
        · rename_i hK
          obtain ⟨q1, q2⟩ := hcg _ _ _ _ _ _ _ _ h
          refine ⟨q1, fun ho => ?_⟩
          simp only [callFn]
          have hK : K f = none := hK
          rw [hK]
          exact q2 ho
      · obtain ⟨q1, q2⟩ := liftG_spec h
        exact ⟨q1, fun _ => q2⟩
    · cases h
  · cases h

theorem op1G_spec {u : Sur} {fs : Fs} {cg : CG} (hcg : CGOK u.e cg) {dst : Option Tmp} {a a' : A} {s s' : St} {acc acc' : List Ob} {c : Cl} (h : op1G P u fs cg dst a s acc c = some (a', s', acc')) : (∀ o ∈ acc, o ∈ acc') ∧ (Obs acc' → op1 P u dst a s c = some (a', s')) := by
  have fin : ∀ {c : Cl}, lift2G acc (op1 P u dst a s c) = some (a', s', acc') → (∀ o ∈ acc, o ∈ acc') ∧ (Obs acc' → op1 P u dst a s c = some (a', s')) := by
    intro c h
    obtain ⟨q1, q2⟩ := lift2G_spec h
    exact ⟨q1, fun _ => q2⟩
  cases c with
  | call f xs =>
    simp only [op1G] at h
    simp only [op1]
    cases hc : callOpG u fs cg f xs a s acc with
    | none => rw [hc] at h; cases h
    | some q =>
      obtain ⟨v, s1, acc1⟩ := q
      obtain ⟨q1, q2⟩ := callOpG_spec hcg hc
      rw [hc] at h; simp only [outVSG] at h
      cases hp : a.put dst v with
      | none => rw [hp] at h; cases h
      | some a1 =>
        rw [hp] at h; simp only at h
        injection h with h; injection h with e1 h; injection h with e2 e3; subst e1; subst e2; subst e3
        refine ⟨q1, fun ho => ?_⟩
        rw [q2 ho]; simp only [outVS, hp]
  | pure f => exact fin h
  | read f => exact fin h
  | alloc f => exact fin h
  | write f => exact fin h
  | defer f xs => exact fin h
  | no => exact fin h

def stepG (P : Program) (u : Sur) (fs : Fs) (cg : CG) (ops : List Oper) (o : Oper) (a : A) (s : St) (acc : List Ob) : ThreeG := match o with
  | ⟨dst, op, _, _, _, guard⟩ => match wantedV ops a guard with
    | true => op1G P u fs cg dst a s acc (cl op P)
    | false => lift2G acc (outV a dst s (some V.undef))

def opsGK (k : A → St → List Ob → ThreeG) (gs : Gs) (dst : Option Tmp) (r : ThreeG) : ThreeG := match r with
  | some (a, s, acc) => match patch gs dst a acc with
    | some (a, acc) => k a s acc
    | none => none
  | none => none

def opsG (P : Program) (u : Sur) (fs : Fs) (cg : CG) (gs : Gs) (ops : List Oper) : List Oper → A → St → List Ob → ThreeG
  | [] => fun a s acc => some (a, s, acc)
  | o :: rest => fun a s acc => opsGK (opsG P u fs cg gs ops rest) gs o.dst (stepG P u fs cg ops o a s acc)

theorem stepG_spec {u : Sur} {fs : Fs} {cg : CG} (hcg : CGOK u.e cg) {ops : List Oper} {o : Oper} {a a' : A} {s s' : St} {acc acc' : List Ob} (h : stepG P u fs cg ops o a s acc = some (a', s', acc')) : (∀ o ∈ acc, o ∈ acc') ∧ (Obs acc' → ∀ k, opsStep P u ops o k a s = k a' s') := by
  obtain ⟨dst, op, x1, x2, x3, guard⟩ := o
  simp only [stepG] at h
  simp only [opsStep]
  cases hw : wantedV ops a guard with
  | true =>
    rw [hw] at h; simp only at h
    obtain ⟨q1, q2⟩ := op1G_spec hcg h
    refine ⟨q1, fun ho k => ?_⟩
    simp only [q2 ho]; rfl
  | false =>
    rw [hw] at h; simp only at h
    obtain ⟨q1, q2⟩ := lift2G_spec h
    refine ⟨q1, fun ho k => ?_⟩
    simp only [q2]; rfl

theorem opsG_spec {u : Sur} {fs : Fs} {cg : CG} (hcg : CGOK u.e cg) {gs : Gs} {ops : List Oper} : ∀ {l : List Oper} {a a' : A} {s s' : St} {acc acc' : List Ob}, opsG P u fs cg gs ops l a s acc = some (a', s', acc') → (∀ o ∈ acc, o ∈ acc') ∧ (Obs acc' → opsL P u ops l a s = some (a', s'))
  | [], a, a', s, s', acc, acc', h => by
    simp only [opsG] at h
    injection h with h; injection h with e1 h; injection h with e2 e3; subst e1; subst e2; subst e3
    exact ⟨fun _ h => h, fun _ => rfl⟩
  | o :: l, a, a', s, s', acc, acc', h => by
    simp only [opsG] at h
    simp only [opsL]
    cases hs : stepG P u fs cg ops o a s acc with
    | none => rw [hs] at h; cases h
    | some q =>
      obtain ⟨a1, s1, acc1⟩ := q
      obtain ⟨r1, r2⟩ := stepG_spec hcg hs
      rw [hs] at h
      simp only [opsGK] at h
      cases hp : patch gs o.dst a1 acc1 with
      | none => rw [hp] at h; cases h
      | some q =>
        obtain ⟨a2, acc2⟩ := q
        rw [hp] at h; simp only at h
        obtain ⟨p1, p2⟩ := patch_spec hp
        obtain ⟨q1, q2⟩ := opsG_spec hcg h
        refine ⟨fun o ho => q1 _ (p1 _ (r1 _ ho)), fun ho => ?_⟩
        have := p2 (fun o h' => ho _ (q1 _ h'))
        subst this
        rw [r2 (fun o h' => ho _ (q1 _ (p1 _ h')))]
        exact q2 ho

/-! ### drawn regions -/

def rdG (P : Program) (r : Rd) : List (Nat × St) → List Ob → List Ob
  | [], acc => acc
  | (j, s) :: ss, acc => match r with
    | ⟨f, a, lo, hi, v⟩ => match Nat.ble (Nat.succ j) lo || Nat.ble (Nat.succ hi) j with
      | true => rdG P ⟨f, a, lo, hi, v⟩ ss acc
      | false => rdG P ⟨f, a, lo, hi, v⟩ ss (.v (f P (fun x => evF x a) s) (some v) :: acc)

def rdsG (P : Program) (ss : List (Nat × St)) : List Rd → List Ob → List Ob
  | [], acc => acc
  | r :: rs, acc => rdsG P ss rs (rdG P r ss acc)

theorem eqb_refl_V (v : V) : V.eqb v v = true := by
  refine V.rec (motive_1 := fun v => V.eqb v v = true) (motive_2 := fun l => V.eqbs l l = true) ?_ ?_ ?_ ?_ ?_ ?_ ?_ ?_ ?_ ?_ ?_ ?_ ?_ ?_ ?_ ?_ ?_ ?_ ?_ v
  all_goals (intros; simp_all [V.eqb, V.eqbs])

theorem rdG_spec (P : Program) {r : Rd} : ∀ {ss : List (Nat × St)} {acc : List Ob}, (∀ o ∈ acc, o ∈ rdG P r ss acc) ∧ (Obs (rdG P r ss acc) → rdIn P r ss = true)
  | [], acc => ⟨fun _ h => h, fun _ => rfl⟩
  | (j, s) :: ss, acc => by
    obtain ⟨f, a, lo, hi, v⟩ := r
    simp only [rdG, rdIn]
    cases hb : (Nat.ble (Nat.succ j) lo || Nat.ble (Nat.succ hi) j) with
    | true =>
      simp only
      obtain ⟨h1, h2⟩ := rdG_spec P (r := ⟨f, a, lo, hi, v⟩) (ss := ss) (acc := acc)
      refine ⟨h1, fun ho => ?_⟩
      rw [h2 ho, ← Bool.or_assoc, hb]; rfl
    | false =>
      simp only
      obtain ⟨h1, h2⟩ := rdG_spec P (r := ⟨f, a, lo, hi, v⟩) (ss := ss) (acc := .v (f P (fun x => evF x a) s) (some v) :: acc)
      refine ⟨fun o ho => h1 _ (List.mem_cons_of_mem _ ho), fun ho => ?_⟩
      rw [h2 ho, ← Bool.or_assoc, hb]
      have : f P (fun x => evF x a) s = some v := ho _ (h1 _ (List.mem_cons_self ..))
      simp only [rdAt, this, eqb_refl_V, Bool.or_true, Bool.and_true]

theorem rdsG_spec {ss : List (Nat × St)} : ∀ {rs : List Rd} {acc : List Ob}, (∀ o ∈ acc, o ∈ rdsG P ss rs acc) ∧ (Obs (rdsG P ss rs acc) → rdsIn P ss rs = true)
  | [], acc => ⟨fun _ h => h, fun _ => rfl⟩
  | r :: rs, acc => by
    simp only [rdsG, rdsIn]
    obtain ⟨h1, h2⟩ := rdG_spec P (r := r) (ss := ss) (acc := acc)
    obtain ⟨q1, q2⟩ := rdsG_spec (ss := ss) (rs := rs) (acc := rdG P r ss acc)
    refine ⟨fun o ho => q1 _ (h1 _ ho), fun ho => ?_⟩
    rw [q2 ho, h2 (fun o h => ho _ (q1 _ h))]; rfl

def opsDGK (k : A → St → List (Nat × St) → List Rd → List Ob → ThreeG) (gs : Gs) (dst : Option Tmp) (ws : List (Nat × St)) (rs : List Rd) (r : ThreeG) : ThreeG := match r with
  | some (a, s, acc) => match patch gs dst a acc with
    | some (a, acc) => k a s ws rs acc
    | none => none
  | none => none

def opsDGStep (P : Program) (u : Sur) (fs : Fs) (cg : CG) (gs : Gs) (ops : List Oper) (o : Oper) (w : Nat × Nat) (i : Nat) (k : A → St → List (Nat × St) → List Rd → List Ob → ThreeG) (a : A) (s : St) (ws : List (Nat × St)) (rs : List Rd) (acc : List Ob) : ThreeG := match o with
  | ⟨dst, op, _, _, _, guard⟩ => match wantedV ops a guard with
    | true => opsDGK k gs dst (keepW (cl op P) i s ws) (keepR (cl op P) P a s w rs) (op1G P u fs cg dst a s acc (cl op P))
    | false => opsDGK k gs dst (keepW (cl op P) i s ws) rs (lift2G acc (outV a dst s (some V.undef)))

def opsDG (P : Program) (u : Sur) (fs : Fs) (cg : CG) (gs : Gs) (ops : List Oper) : List Oper → List (Nat × Nat) → Nat → A → St → List (Nat × St) → List Rd → List Ob → ThreeG
  | [], _, i => fun a s ws rs acc => some (a, s, rdsG P ((i, s) :: ws) rs acc)
  | o :: rest, w :: ws, i => opsDGStep P u fs cg gs ops o w i (opsDG P u fs cg gs ops rest ws (Nat.succ i))
  | _ :: _, [], _ => fun _ _ _ _ _ => none

theorem opsDG_spec {u : Sur} {fs : Fs} {cg : CG} (hcg : CGOK u.e cg) {gs : Gs} {ops : List Oper} : ∀ {l : List Oper} {wl : List (Nat × Nat)} {i : Nat} {a a' : A} {s s' : St} {ws : List (Nat × St)} {rs : List Rd} {acc acc' : List Ob}, opsDG P u fs cg gs ops l wl i a s ws rs acc = some (a', s', acc') → (∀ o ∈ acc, o ∈ acc') ∧ (Obs acc' → opsD P u ops l wl i a s ws rs = some (a', s'))
  | [], wl, i, a, a', s, s', ws, rs, acc, acc', h => by
    simp only [opsDG] at h
    injection h with h; injection h with e1 h; injection h with e2 e3; subst e1; subst e2; subst e3
    obtain ⟨h1, h2⟩ := rdsG_spec (P := P) (ss := (i, s) :: ws) (rs := rs) (acc := acc)
    refine ⟨h1, fun ho => ?_⟩
    have h2 := h2 ho
    simp only [opsD]
    unfold opsDEnd
    split
    · rfl
    · rw [h2]
  | o :: l, w :: wl, i, a, a', s, s', ws, rs, acc, acc', h => by
    obtain ⟨dst, op, x1, x2, x3, guard⟩ := o
    simp only [opsDG, opsDGStep] at h
    simp only [opsD, opsDStep]
    have core : ∀ {ws : List (Nat × St)} {rs : List Rd} {r : ThreeG} {r0 : Two}, (∀ a1 s1 acc1, r = some (a1, s1, acc1) → (∀ o ∈ acc, o ∈ acc1) ∧ (Obs acc1 → r0 = some (a1, s1))) → opsDGK (opsDG P u fs cg gs ops l wl (Nat.succ i)) gs dst ws rs r = some (a', s', acc') → (∀ o ∈ acc, o ∈ acc') ∧ (Obs acc' → opsDK (opsD P u ops l wl (Nat.succ i)) ws rs r0 = some (a', s')) := by
      intro ws rs r r0 hr h
      cases r with
      | none => cases h
      | some q =>
        obtain ⟨a1, s1, acc1⟩ := q
        obtain ⟨r1, r2⟩ := hr _ _ _ rfl
        simp only [opsDGK] at h
        cases hp : patch gs dst a1 acc1 with
        | none => rw [hp] at h; cases h
        | some q =>
          obtain ⟨a2, acc2⟩ := q
          rw [hp] at h; simp only at h
          obtain ⟨p1, p2⟩ := patch_spec hp
          obtain ⟨q1, q2⟩ := opsDG_spec hcg h
          refine ⟨fun o ho => q1 _ (p1 _ (r1 _ ho)), fun ho => ?_⟩
          have := p2 (fun o h' => ho _ (q1 _ h'))
          subst this
          rw [r2 (fun o h' => ho _ (q1 _ (p1 _ h')))]
          exact q2 ho
    cases hw : wantedV ops a guard with
    | true => rw [hw] at h; exact core (fun _ _ _ e => op1G_spec hcg e) h
    | false =>
      rw [hw] at h
      refine core (fun _ _ _ e => ?_) h
      obtain ⟨q1, q2⟩ := lift2G_spec e
      exact ⟨q1, fun _ => q2⟩
  | o :: l, [], i, a, a', s, s', ws, rs, acc, acc', h => by
    simp only [opsDG] at h; cases h

/-! ### code -/

abbrev OutG := Option (X × A × St × List Ob)

def outNG (r : ThreeG) : OutG := match r with
  | some (a, s, acc) => some (.normal, a, s, acc)
  | none => none
def plainG (acc : List Ob) (r : Out) : OutG := match r with
  | some (x, a, s) => some (x, a, s, acc)
  | none => none
def thenG (k : A → St → List Ob → OutG) (r : OutG) : OutG := match r with
  | some (x, a, s, acc) => match x with
    | .normal => k a s acc
    | .exit id => some (.exit id, a, s, acc)
    | .goto l => some (.goto l, a, s, acc)
    | .ret => some (.ret, a, s, acc)
  | none => none
def outBG (id : Nat) (r : OutG) : OutG := match r with
  | some (x, a, s, acc) => match x with
    | .normal => some (.normal, a, s, acc)
    | .exit id' => Bool.casesOn (Nat.beq id' id) (some (.exit id', a, s, acc)) (some (.normal, a, s, acc))
    | .goto l => some (.goto l, a, s, acc)
    | .ret => some (.ret, a, s, acc)
  | none => none

def regDG (P : Program) (u : Sur) (fs : Fs) (cg : CG) (gs : Gs) (ops : Array Oper) (a : A) (s : St) (acc : List Ob) : OutG := match drawOk P ops with
  | some ws => outNG (opsDG P u fs cg gs ops.toList ops.toList ws 0 a s [] [] acc)
  | none => none

/-- a level of runs under guesses -/
structure GEv where
  code : Gs → Code → A → St → List Ob → OutG
  call : CG

def codeGS (P : Program) (K : Known) (fs : Fs) (e : Ev) (ih : GEv) (gs : Gs) (c : Code) (a : A) (s : St) (acc : List Ob) : OutG := match c with
  | .region _ ops draw => Bool.casesOn draw (outNG (opsG P ⟨P, K, e, none⟩ fs ih.call gs ops.toList ops.toList a s acc)) (regDG P ⟨P, K, e, none⟩ fs ih.call gs ops a s acc)
  | .seq x y => thenG (ih.code gs y) (ih.code gs x a s acc)
  | .cond c x y => match evF c a with
    | some (.bool b) => Bool.casesOn b (ih.code gs y a s acc) (ih.code gs x a s acc)
    | _ => none
  | .block id c => outBG id (ih.code gs c a s acc)
  | c => plainG acc (codeF c ⟨P, K, e, none⟩ a s)

def callEndG (u : Sur) (fn : Func) (r : OutG) : CallG := match r with
  | some (x, a, s, acc) => match callEnd u fn (some (x, a, s)) with
    | some (v, s) => some (v, s, acc)
    | none => none
  | none => none

def callGS (P : Program) (K : Known) (e : Ev) (ih : GEv) (f : FuncId) (gs : Gs) (args : List V) (s : St) (acc : List Ob) : CallG := match P.funcs[f]? with
  | some fn => match fn.body with
    | some c => match entered fn args with
      | some a => callEndG ⟨P, K, e, none⟩ fn (ih.code gs c a s acc)
      | none => none
    | none => none
  | none => none

def gEv (P : Program) (K : Known) (fs : Fs) (n : Nat) : GEv :=
  Nat.rec ⟨fun _ _ _ _ _ => none, fun _ _ _ _ _ => none⟩ (fun m ih => ⟨codeGS P K fs (evN P K m) ih, callGS P K (evN P K m) ih⟩) n

def CodeOK (e : Ev) (cd : Gs → Code → A → St → List Ob → OutG) : Prop := ∀ gs c a s acc x a' s' acc', cd gs c a s acc = some (x, a', s', acc') → (∀ o ∈ acc, o ∈ acc') ∧ (Obs acc' → e.code none c a s = some (x, a', s'))

theorem codeGS_spec {fs : Fs} {e : Ev} {ih : GEv} (h1 : CodeOK e ih.code) (h2 : CGOK e ih.call) : CodeOK (level P K e) (codeGS P K fs e ih) := by
  intro gs c a s acc x a' s' acc' h
  show _ ∧ (Obs acc' → codeF c ⟨P, K, e, none⟩ a s = some (x, a', s'))
  have plain : plainG acc (codeF c ⟨P, K, e, none⟩ a s) = some (x, a', s', acc') → (∀ o ∈ acc, o ∈ acc') ∧ (Obs acc' → codeF c ⟨P, K, e, none⟩ a s = some (x, a', s')) := by
    intro h
    cases hc : codeF c ⟨P, K, e, none⟩ a s with
    | none => rw [hc] at h; cases h
    | some q =>
      obtain ⟨x1, a1, s1⟩ := q
      rw [hc] at h
      simp only [plainG] at h
      injection h with h; injection h with e1 h; injection h with e2 h; injection h with e3 e4
      subst e1; subst e2; subst e3; subst e4
      exact ⟨fun _ h => h, fun _ => rfl⟩
  cases c with
  | region i ops draw =>
    simp only [codeGS] at h
    cases draw with
    | false =>
      simp only at h
      cases ho : opsG P ⟨P, K, e, none⟩ fs ih.call gs ops.toList ops.toList a s acc with
      | none => rw [ho] at h; cases h
      | some q =>
        obtain ⟨a1, s1, acc1⟩ := q
        rw [ho] at h; simp only [outNG] at h
        injection h with h; injection h with e1 h; injection h with e2 h; injection h with e3 e4
        subst e1; subst e2; subst e3; subst e4
        obtain ⟨q1, q2⟩ := opsG_spec (u := ⟨P, K, e, none⟩) h2 ho
        refine ⟨q1, fun hh => ?_⟩
        show outN (opsL P ⟨P, K, e, none⟩ ops.toList ops.toList a s) = _
        rw [q2 hh]; rfl
    | true =>
      simp only [regDG] at h
      cases hd : drawOk P ops with
      | none => rw [hd] at h; cases h
      | some ws =>
        rw [hd] at h; simp only at h
        cases ho : opsDG P ⟨P, K, e, none⟩ fs ih.call gs ops.toList ops.toList ws 0 a s [] [] acc with
        | none => rw [ho] at h; cases h
        | some q =>
          obtain ⟨a1, s1, acc1⟩ := q
          rw [ho] at h; simp only [outNG] at h
          injection h with h; injection h with e1 h; injection h with e2 h; injection h with e3 e4
          subst e1; subst e2; subst e3; subst e4
          obtain ⟨q1, q2⟩ := opsDG_spec (u := ⟨P, K, e, none⟩) h2 ho
          refine ⟨q1, fun hh => ?_⟩
          show (match drawOk P ops with
            | some ws => outN (opsD P ⟨P, K, e, none⟩ ops.toList ops.toList ws 0 a s [] [])
            | none => none) = _
          rw [hd]
          simp only [q2 hh]; rfl
  | seq c1 c2 =>
    simp only [codeGS] at h
    show _ ∧ (Obs acc' → thenC (e.code none c2) (e.code none c1 a s) = _)
    cases hc : ih.code gs c1 a s acc with
    | none => rw [hc] at h; cases h
    | some q =>
      obtain ⟨x1, a1, s1, acc1⟩ := q
      rw [hc] at h
      obtain ⟨q1, q2⟩ := h1 _ _ _ _ _ _ _ _ _ hc
      cases x1 with
      | normal =>
        simp only [thenG] at h
        obtain ⟨r1, r2⟩ := h1 _ _ _ _ _ _ _ _ _ h
        refine ⟨fun o ho => r1 _ (q1 _ ho), fun hh => ?_⟩
        rw [q2 (fun o ho => hh _ (r1 _ ho))]
        exact r2 hh
      | _ =>
        simp only [thenG] at h
        injection h with h; injection h with e1 h; injection h with e2 h; injection h with e3 e4
        subst e1; subst e2; subst e3; subst e4
        exact ⟨q1, fun hh => by rw [q2 hh]; rfl⟩
  | cond c1 x1 y1 =>
    simp only [codeGS] at h
    show _ ∧ (Obs acc' → (match evF c1 a with
      | some (.bool b) => Bool.casesOn (motive := fun _ => Out) b (run1 ⟨P, K, e, none⟩ y1 a s) (run1 ⟨P, K, e, none⟩ x1 a s)
      | _ => none) = _)
    split at h
    · rename_i b hb
      cases b with
      | false => exact h1 _ _ _ _ _ _ _ _ _ h
      | true => exact h1 _ _ _ _ _ _ _ _ _ h
    · cases h
  | block id c1 =>
    simp only [codeGS] at h
    show _ ∧ (Obs acc' → outB id (e.code none c1 a s) = _)
    cases hc : ih.code gs c1 a s acc with
    | none => rw [hc] at h; cases h
    | some q =>
      obtain ⟨x1, a1, s1, acc1⟩ := q
      rw [hc] at h
      obtain ⟨q1, q2⟩ := h1 _ _ _ _ _ _ _ _ _ hc
      cases x1 with
      | exit id' =>
        simp only [outBG] at h
        cases hb : Nat.beq id' id with
        | true =>
          rw [hb] at h; simp only at h
          injection h with h; injection h with e1 h; injection h with e2 h; injection h with e3 e4
          subst e1; subst e2; subst e3; subst e4
          exact ⟨q1, fun hh => by rw [q2 hh]; simp only [outB, hb]⟩
        | false =>
          rw [hb] at h; simp only at h
          injection h with h; injection h with e1 h; injection h with e2 h; injection h with e3 e4
          subst e1; subst e2; subst e3; subst e4
          exact ⟨q1, fun hh => by rw [q2 hh]; simp only [outB, hb]⟩
      | _ =>
        simp only [outBG] at h
        injection h with h; injection h with e1 h; injection h with e2 h; injection h with e3 e4
        subst e1; subst e2; subst e3; subst e4
        exact ⟨q1, fun hh => by rw [q2 hh]; rfl⟩
  | _ => exact plain h

theorem callGS_spec {e : Ev} {ih : GEv} (h1 : CodeOK e ih.code) : CGOK (level P K e) (callGS P K e ih) := by
  intro f gs args s acc v s' acc' h
  show _ ∧ (Obs acc' → callF ⟨P, K, e, none⟩ f args s = some (v, s'))
  unfold callGS at h
  unfold callF
  split at h
  · rename_i fn hf
    simp only [hf]
    split at h
    · rename_i c hc
      simp only [hc]
      unfold callBody
      split at h
      · rename_i a ha
        simp only [ha]
        cases hg : ih.code gs c a s acc with
        | none => rw [hg] at h; cases h
        | some q =>
          obtain ⟨x, a1, s1, acc1⟩ := q
          rw [hg] at h
          obtain ⟨q1, q2⟩ := h1 _ _ _ _ _ _ _ _ _ hg
          simp only [callEndG] at h
          cases he : callEnd ⟨P, K, e, none⟩ fn (some (x, a1, s1)) with
          | none => rw [he] at h; cases h
          | some q =>
            obtain ⟨v1, s2⟩ := q
            rw [he] at h; simp only at h
            injection h with h; injection h with e1 h; injection h with e2 e3
            subst e1; subst e2; subst e3
            refine ⟨q1, fun ho => ?_⟩
            rw [q2 ho]; exact he
      · cases h
    · cases h
  · cases h

theorem gEv_ok {fs : Fs} (n : Nat) : CodeOK (evN P K n) (gEv P K fs n).code ∧ CGOK (evN P K n) (gEv P K fs n).call := by
  induction n with
  | zero =>
    constructor
    · intro gs c a s acc x a' s' acc' h; cases h
    · intro f gs args s acc v s' acc' h; cases h
  | succ n ih => exact ⟨codeGS_spec (P := P) (K := K) (fs := fs) ih.1 ih.2, callGS_spec (P := P) (K := K) ih.1⟩

theorem all_nil : ∀ p ∈ ([] : List (Bool × Bool)), p.1 = p.2 := fun _ h => by cases h
theorem all_cons {x d : Bool} {l : List (Bool × Bool)} (h : x = d) (t : ∀ p ∈ l, p.1 = p.2) : ∀ p ∈ (x, d) :: l, p.1 = p.2 := fun p hp => by
  cases hp with
  | head => exact h
  | tail _ hp => exact t p hp

/-- what a run under guesses answers, what was guessed, what was seen -/
def tellG (r : CallG) : Option (V × List (Bool × Bool) × List (Option V)) := match r with
  | some (v, _, ob) => some (v, bools ob, seens ob)
  | none => none
def wantsG (r : CallG) : List (Option V) := match r with
  | some (_, _, ob) => wants ob
  | none => []

theorem callG_told {fs : Fs} {gs : Gs} {n : Nat} {f : FuncId} {args : List V} {s : St} {v : V} {l : List (Bool × Bool)} (h : tellG ((gEv P K fs n).call f gs args s []) = some (v, l, wantsG ((gEv P K fs n).call f gs args s []))) (hl : ∀ p ∈ l, p.1 = p.2) : ∃ s', (evN P K n).call f args s = some (v, s') := by
  cases hc : (gEv P K fs n).call f gs args s [] with
  | none => rw [hc] at h; cases h
  | some q =>
    obtain ⟨v1, s1, ob⟩ := q
    rw [hc] at h
    simp only [tellG, wantsG] at h
    injection h with h; injection h with e1 h; injection h with e2 e3
    subst e1; subst e2
    exact ⟨s1, ((gEv_ok n).2 _ _ _ _ _ _ _ _ hc).2 (Obs.of hl e3)⟩

end Go.AM

namespace Go.AM

variable {P : Program}

mutual
/-- a value that leads to no memory -/
def V.flat : V → Bool
  | .bool _ => true
  | .int _ _ => true
  | .str _ => true
  | .ptr0 => true
  | .sl0 => true
  | .map0 => true
  | .fn0 => true
  | .ifc0 => true
  | .agg l => V.flats l
  | .tup l => V.flats l
  | _ => false
def V.flats : List V → Bool
  | [] => true
  | v :: l => v.flat && V.flats l
end

mutual
theorem VR.flat {φ ψ : Map} : ∀ {v : V} {v' : Value}, VR φ v v' → v.flat = true → VR ψ v v'
  | _, _, .bool b, _ => .bool b
  | _, _, .int k n, _ => .int k n
  | _, _, .str s, _ => .str s
  | _, _, .ptr0, _ => .ptr0
  | _, _, .ptr off h, hf => by cases hf
  | _, _, .sl0, _ => .sl0
  | _, _, .slE a c, hf => by cases hf
  | _, _, .slx off len cap h, hf => by cases hf
  | _, _, .sls off len cap es cap' h hc hN, hf => by cases hf
  | _, _, .map0, _ => .map0
  | _, _, .map h, hf => by cases hf
  | _, _, .fn f h h', hf => by cases hf
  | _, _, .yld h, hf => by cases hf
  | _, _, .fn0, _ => .fn0
  | _, _, .ifc t h, hf => by cases hf
  | _, _, .ifc0, _ => .ifc0
  | _, _, .agg h, hf => .agg (VRs.flat h hf)
  | _, _, .tup h, hf => .tup (VRs.flat h hf)
theorem VRs.flat {φ ψ : Map} : ∀ {l : List V} {l' : List Value}, VRs φ l l' → V.flats l = true → VRs ψ l l'
  | _, _, .nil, _ => .nil
  | _, _, .cons h t, hf => by
    have hf : (_ && _) = true := hf
    rw [Bool.and_eq_true] at hf
    exact .cons (VR.flat h hf.1) (VRs.flat t hf.2)
end

/-- runs from nothing at all, of what leads to no memory, that answer what leads to no memory: known, and memory is as it was -/
theorem KOK.alone {K : Known} (h : KOK P K) {e : Ev} (he : EvOK P e) {f : FuncId} {g : KF}
    (hg : ∀ args s v s', g args s = some (v, s') → s' = s ∧ V.flats args = true ∧ v.flat = true ∧ ∃ s1, e.call f args St.empty = some (v, s1)) : KOK P (K.add f false g) := by
  intro f' d' g' hK args s v s' hv
  rcases add_spec hK with ⟨rfl, rfl, rfl⟩ | hK
  · obtain ⟨rfl, fa, fv, s1, hr⟩ := hg _ _ _ _ hv
    refine ⟨Nat.le_refl _, fun φ w args' hh hw ha hfree => .inr ?_⟩
    obtain ⟨hm, hs⟩ := he.call _ _ _ _ _ hr
    obtain ⟨h1, h2⟩ := hs (fun _ => Option.none) w args' ⟨fun i b N o hi => (by cases hi), fun i j b N M hi => (by cases hi)⟩ Wf.empty (VRs.flat ha fa) (fun _ _ _ => rfl)
    refine ⟨h1, h2.mono fun en w' hret => ?_, fun hd => (by cases hd)⟩
    obtain ⟨φ', v', rfl, hvr, hf⟩ := hret
    have kept : ∀ b, b < w.heap.size → w'.heap[b]? = w.heap[b]? := fun b hb => hf.goes.keeps b hb (fun i N hi => by cases hi)
    refine ⟨φ, v', rfl, VR.flat hvr fv, ⟨⟨fun i b N o hi hs => ?_, hh.inj⟩, ⟨fun _ _ => rfl, Nat.le_refl _, fun i b N a1 a2 _ => absurd (Nat.lt_of_le_of_lt a1 a2) (Nat.lt_irrefl _), fun _ _ h => h, fun b hb _ => kept b hb, hf.goes.size⟩, hf.calm, hw⟩⟩
    obtain ⟨c, c1, c2⟩ := hh.obj i b N o hi hs
    exact ⟨c, by rw [kept b (Array.getElem?_eq_some_iff.1 c1).1]; exact c1, c2⟩
  · exact h f' d' g' hK args s v s' hv

end Go.AM
