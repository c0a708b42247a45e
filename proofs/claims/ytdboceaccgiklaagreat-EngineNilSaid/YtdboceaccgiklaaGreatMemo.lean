/-
  Proves that a call that was run once, at a part of memory, runs so wherever memory holds that part.
-/
import Derived.Test.YtdboceaccgiklaaGreatBase
set_option linter.all false
namespace Go.AM

variable {P : Program} {φ : Map} {w : World} {s s' : St}

/-! ### objects that are the same -/

def optEqb (a b : Option V) : Bool := match a with
  | some x => match b with
    | some y => V.eqb x y
    | none => false
  | none => match b with
    | some _ => false
    | none => true

def Tr.eqb : Tr V → Tr V → Bool
  | .e, .e => true
  | .n l o r, .n l' o' r' => optEqb o o' && (Tr.eqb l l' && Tr.eqb r r')
  | _, _ => false

def mapEqb : List (V × V × Nat) → List (V × V × Nat) → Bool
  | [], [] => true
  | (k, v, b) :: l, (k', v', b') :: l' => V.eqb k k' && (V.eqb v v' && (Nat.beq b b' && mapEqb l l'))
  | _, _ => false

def natsEqb : List Nat → List Nat → Bool
  | [], [] => true
  | a :: l, b :: l' => Nat.beq a b && natsEqb l l'
  | _, _ => false

def O.eqb : O → O → Bool
  | .cells t n, .cells t' n' => Nat.beq n n' && Tr.eqb t t'
  | .map es c, .map es' c' => Nat.beq c c' && mapEqb es es'
  | .iter m a l b, .iter m' a' l' b' => Nat.beq m m' && (Nat.beq a a' && (natsEqb l l' && Nat.beq b b'))
  | .marks true, .marks true => true
  | .marks false, .marks false => true
  | _, _ => false

theorem optEqb_eq {a b : Option V} (h : optEqb a b = true) : a = b := by
  cases a <;> cases b <;> first | rfl | (cases h; done) | (rw [V.eqb_eq h])

theorem Tr.eqb_eq : ∀ {a b : Tr V}, Tr.eqb a b = true → a = b
  | .e, b, h => by cases b <;> first | rfl | cases h
  | .n l o r, b, h => by
    cases b with
    | e => cases h
    | n l' o' r' =>
      simp only [Tr.eqb, Bool.and_eq_true] at h
      rw [optEqb_eq h.1, Tr.eqb_eq h.2.1, Tr.eqb_eq h.2.2]

theorem mapEqb_eq : ∀ {a b : List (V × V × Nat)}, mapEqb a b = true → a = b
  | [], b, h => by cases b <;> first | rfl | cases h
  | (k, v, c) :: l, b, h => by
    cases b with
    | nil => cases h
    | cons x l' =>
      obtain ⟨k', v', c'⟩ := x
      simp only [mapEqb, Bool.and_eq_true] at h
      rw [V.eqb_eq h.1, V.eqb_eq h.2.1, Nat.eq_of_beq_eq_true h.2.2.1, mapEqb_eq h.2.2.2]

theorem natsEqb_eq : ∀ {a b : List Nat}, natsEqb a b = true → a = b
  | [], b, h => by cases b <;> first | rfl | cases h
  | a :: l, b, h => by
    cases b with
    | nil => cases h
    | cons x l' =>
      simp only [natsEqb, Bool.and_eq_true] at h
      rw [Nat.eq_of_beq_eq_true h.1, natsEqb_eq h.2]

theorem O.eqb_eq {a b : O} (h : O.eqb a b = true) : a = b := by
  cases a with
  | cells t n => cases b <;> first | (cases h; done) | (simp only [O.eqb, Bool.and_eq_true] at h; rw [Nat.eq_of_beq_eq_true h.1, Tr.eqb_eq h.2])
  | map es c => cases b <;> first | (cases h; done) | (simp only [O.eqb, Bool.and_eq_true] at h; rw [Nat.eq_of_beq_eq_true h.1, mapEqb_eq h.2])
  | iter m a l b' => cases b <;> first | (cases h; done) | (simp only [O.eqb, Bool.and_eq_true] at h; rw [Nat.eq_of_beq_eq_true h.1, Nat.eq_of_beq_eq_true h.2.1, natsEqb_eq h.2.2.1, Nat.eq_of_beq_eq_true h.2.2.2])
  | loop l => cases h
  | marks x => cases x <;> cases b <;> first | (cases h; done) | (rename_i y; cases y <;> first | rfl | cases h)

/-- all these objects are there -/
def hasAll (h : Tr O) : List (Nat × O) → Bool
  | [] => true
  | (i, o) :: l => match h.get i with
    | some o' => O.eqb o' o && hasAll h l
    | none => false

theorem hasAll_spec {h : Tr O} : ∀ {l : List (Nat × O)}, hasAll h l = true → ∀ i o, (i, o) ∈ l → h.get i = some o
  | [], _, i, o, hm => by cases hm
  | (j, p) :: l, hh, i, o, hm => by
    simp only [hasAll] at hh
    cases hg : h.get j with
    | none => rw [hg] at hh; cases hh
    | some o' =>
      rw [hg] at hh
      simp only [Bool.and_eq_true] at hh
      cases hm with
      | head => rw [hg, O.eqb_eq hh.1]
      | tail _ hm => exact hasAll_spec hh.2 i o hm

/-- objects put in their places -/
def setAll : List (Nat × O) → Tr O → Option (Tr O)
  | [], h => some h
  | (i, o) :: l, h => match h.set i (some o) with
    | some h' => setAll l h'
    | none => none

/-- objects that go -/
def dropAll : List Nat → Tr O → Option (Tr O)
  | [], h => some h
  | i :: l, h => match h.set i none with
    | some h' => dropAll l h'
    | none => none

theorem setAll_spec : ∀ {l : List (Nat × O)} {h h' : Tr O}, setAll l h = some h' → ∀ i, (∃ o, (i, o) ∈ l ∧ h'.get i = some o) ∨ ((∀ o, (i, o) ∉ l) ∧ h'.get i = h.get i)
  | [], h, h', e, i => by simp only [setAll] at e; injection e with e; subst e; exact .inr ⟨fun o hm => (by cases hm), rfl⟩
  | (j, p) :: l, h, h', e, i => by
    simp only [setAll] at e
    cases hs : h.set j (some p) with
    | none => rw [hs] at e; cases e
    | some h1 =>
      rw [hs] at e; simp only at e
      rcases setAll_spec e i with ⟨o, h2, h3⟩ | ⟨h2, h3⟩
      · exact .inl ⟨o, List.mem_cons_of_mem _ h2, h3⟩
      · by_cases ei : i = j
        · subst ei; exact .inl ⟨p, List.mem_cons_self .., by rw [h3, get_set hs, if_pos rfl]⟩
        · refine .inr ⟨fun o hm => ?_, by rw [h3, get_set hs, if_neg ei]⟩
          cases hm with
          | head => exact ei rfl
          | tail _ hm => exact h2 o hm

theorem dropAll_spec : ∀ {l : List Nat} {h h' : Tr O}, dropAll l h = some h' → ∀ i, (i ∈ l ∧ h'.get i = none) ∨ (i ∉ l ∧ h'.get i = h.get i)
  | [], h, h', e, i => by simp only [dropAll] at e; injection e with e; subst e; exact .inr ⟨by simp, rfl⟩
  | j :: l, h, h', e, i => by
    simp only [dropAll] at e
    cases hs : h.set j none with
    | none => rw [hs] at e; cases e
    | some h1 =>
      rw [hs] at e; simp only at e
      rcases dropAll_spec e i with ⟨h2, h3⟩ | ⟨h2, h3⟩
      · exact .inl ⟨List.mem_cons_of_mem _ h2, h3⟩
      · by_cases ei : i = j
        · subst ei; exact .inl ⟨List.mem_cons_self .., by rw [h3, get_set hs, if_pos rfl]⟩
        · exact .inr ⟨by simp [ei, h2], by rw [h3, get_set hs, if_neg ei]⟩

end Go.AM

namespace Go.AM

variable {P : Program} {φ : Map} {w : World} {s s' : St}

/-- a call that has been run: what it was asked, what it looked at, what it answered, what it left -/
structure Chunk where
  args : List V
  objs : List (Nat × O)
  next : Nat
  v : V
  after : List (Nat × O)
  gone : List Nat
  next' : Nat

def Chunk.run (c : Chunk) : KF := fun args s => match V.eqbs args c.args with
  | true => match s with
    | ⟨h, n⟩ => match Nat.beq n c.next with
      | true => match hasAll h c.objs with
        | true => match setAll c.after h with
          | some h1 => match dropAll c.gone h1 with
            | some h2 => some (c.v, ⟨h2, c.next'⟩)
            | none => none
          | none => none
        | false => none
      | false => none
  | false => none

/-- a number among those of a list -/
def keyIn (i : Nat) : List (Nat × O) → Bool
  | [] => false
  | (j, _) :: l => Nat.beq i j || keyIn i l
def natIn (i : Nat) : List Nat → Bool
  | [] => false
  | j :: l => Nat.beq i j || natIn i l

/-- what was looked at is as it was, or told of -/
def keptAll (h : Tr O) (after : List (Nat × O)) (gone : List Nat) : List (Nat × O) → Bool
  | [] => true
  | (i, o) :: l => (keyIn i after || (natIn i gone || (match h.get i with
    | some o' => O.eqb o' o
    | none => false))) && keptAll h after gone l

def allLt (n : Nat) : List (Nat × O) → Bool
  | [] => true
  | (i, _) :: l => Nat.ble (Nat.succ i) n && allLt n l

/-- what is gone was looked at -/
def goneIn (objs : List (Nat × O)) : List Nat → Bool
  | [] => true
  | i :: l => keyIn i objs && goneIn objs l

def Chunk.good (c : Chunk) (r : Option (V × St)) : Bool := match r with
  | some (v, s) => match s with
    | ⟨h, n⟩ => V.eqb v c.v && (Nat.beq n c.next' && (hasAll h c.after && keptAll h c.after c.gone c.objs))
  | none => false

def Chunk.ok (c : Chunk) (e : Ev) (f : FuncId) : Bool := match setAll c.objs .e with
  | some h => allLt c.next c.objs && (goneIn c.objs c.gone && c.good (e.call f c.args ⟨h, c.next⟩))
  | none => false

theorem keyIn_spec {i : Nat} : ∀ {l : List (Nat × O)}, keyIn i l = true → ∃ o, (i, o) ∈ l
  | [], h => by cases h
  | (j, p) :: l, h => by
    simp only [keyIn, Bool.or_eq_true] at h
    rcases h with h | h
    · exact ⟨p, by rw [Nat.eq_of_beq_eq_true h]; exact List.mem_cons_self ..⟩
    · obtain ⟨o, ho⟩ := keyIn_spec h; exact ⟨o, List.mem_cons_of_mem _ ho⟩

theorem natIn_spec {i : Nat} : ∀ {l : List Nat}, natIn i l = true → i ∈ l
  | [], h => by cases h
  | j :: l, h => by
    simp only [natIn, Bool.or_eq_true] at h
    rcases h with h | h
    · rw [Nat.eq_of_beq_eq_true h]; exact List.mem_cons_self ..
    · exact List.mem_cons_of_mem _ (natIn_spec h)

theorem keptAll_spec {h : Tr O} {after : List (Nat × O)} {gone : List Nat} : ∀ {l : List (Nat × O)}, keptAll h after gone l = true → ∀ i o, (i, o) ∈ l → (∃ o', (i, o') ∈ after) ∨ i ∈ gone ∨ h.get i = some o
  | [], _, i, o, hm => by cases hm
  | (j, p) :: l, hh, i, o, hm => by
    simp only [keptAll, Bool.and_eq_true, Bool.or_eq_true] at hh
    cases hm with
    | head =>
      rcases hh.1 with h1 | h1 | h1
      · exact .inl (keyIn_spec h1)
      · exact .inr (.inl (natIn_spec h1))
      · cases hg : h.get j with
        | none => rw [hg] at h1; cases h1
        | some o' => rw [hg] at h1; rw [O.eqb_eq h1]; exact .inr (.inr rfl)
    | tail _ hm => exact keptAll_spec hh.2 i o hm

theorem allLt_spec {n : Nat} : ∀ {l : List (Nat × O)}, allLt n l = true → ∀ i o, (i, o) ∈ l → i < n
  | [], _, i, o, hm => by cases hm
  | (j, p) :: l, hh, i, o, hm => by
    simp only [allLt, Bool.and_eq_true] at hh
    cases hm with
    | head => exact Nat.le_of_ble_eq_true hh.1
    | tail _ hm => exact allLt_spec hh.2 i o hm

theorem goneIn_spec {objs : List (Nat × O)} : ∀ {l : List Nat}, goneIn objs l = true → ∀ i, i ∈ l → ∃ o, (i, o) ∈ objs
  | [], _, i, hm => by cases hm
  | j :: l, hh, i, hm => by
    simp only [goneIn, Bool.and_eq_true] at hh
    cases hm with
    | head => exact keyIn_spec hh.1
    | tail _ hm => exact goneIn_spec hh.2 i hm

/-- A CHUNK IS A KNOWN FUNCTION where it was run -/
theorem Chunk.sound {e : Ev} (he : EvOK P e) {f : FuncId} {c : Chunk} (hok : c.ok e f = true) {args : List V} {v : V} (hv : c.run args s = some (v, s')) : s.next ≤ s'.next ∧
    ∀ (φ : Map) (w : World) (args' : List Value), HR φ s w → Wf s → VRs φ args args' → Free φ s s' → Go' P f ∧ CallsIn (fen none) 0 P f ⟨args'⟩ w (Ret φ s w v s') := by
  -- the run
  unfold Chunk.ok at hok
  cases hsub : setAll c.objs (.e : Tr O) with
  | none => rw [hsub] at hok; cases hok
  | some hb =>
  rw [hsub] at hok
  simp only [Bool.and_eq_true] at hok
  obtain ⟨hlt, hgone, hgood⟩ := hok
  cases hcall : e.call f c.args ⟨hb, c.next⟩ with
  | none => rw [hcall] at hgood; cases hgood
  | some q =>
  obtain ⟨v1, h1, n1⟩ := q
  rw [hcall] at hgood
  simp only [Chunk.good, Bool.and_eq_true] at hgood
  obtain ⟨g1, g2, g3, g4⟩ := hgood
  have g1 := V.eqb_eq g1
  have g2 := Nat.eq_of_beq_eq_true g2
  subst g1; subst g2
  -- what is asked now
  obtain ⟨h0, n0⟩ := s
  unfold Chunk.run at hv
  cases ha : V.eqbs args c.args with
  | false => rw [ha] at hv; cases hv
  | true =>
  rw [ha] at hv; simp only at hv
  have ha := V.eqbs_eq ha
  subst ha
  cases hn : Nat.beq n0 c.next with
  | false => rw [hn] at hv; cases hv
  | true =>
  rw [hn] at hv; simp only at hv
  have hn := Nat.eq_of_beq_eq_true hn
  subst hn
  cases hhas : hasAll h0 c.objs with
  | false => rw [hhas] at hv; cases hv
  | true =>
  rw [hhas] at hv; simp only at hv
  cases hset : setAll c.after h0 with
  | none => rw [hset] at hv; cases hv
  | some h2 =>
  rw [hset] at hv; simp only at hv
  cases hdrop : dropAll c.gone h2 with
  | none => rw [hdrop] at hv; cases hv
  | some h3 =>
  rw [hdrop] at hv; simp only at hv
  injection hv with hv; injection hv with e1 e2; subst e1; subst e2
  obtain ⟨hm, hs⟩ := he.call _ _ _ _ _ hcall
  refine ⟨hm, fun φ w args' hr hw hva hfree => ?_⟩
  -- the sub-state
  have subget : ∀ i o, hb.get i = some o → (i, o) ∈ c.objs := fun i o hi => by
    rcases setAll_spec hsub i with ⟨o', m1, m2⟩ | ⟨_, m2⟩
    · rw [hi] at m2; injection m2 with m2; subst m2; exact m1
    · rw [hi, get_e] at m2; cases m2
  have sublive : ∀ i o, (i, o) ∈ c.objs → hb.get i ≠ none := fun i o hi => by
    rcases setAll_spec hsub i with ⟨o', _, m2⟩ | ⟨m1, _⟩
    · rw [m2]; simp
    · exact absurd hi (m1 o)
  have suble : ∀ i o, hb.get i = some o → h0.get i = some o := fun i o hi => hasAll_spec hhas i o (subget i o hi)
  have hrs : HR φ ⟨hb, c.next⟩ w := hr.g.of suble
  have hws : Wf ⟨hb, c.next⟩ := fun i hi => by
    cases hg : hb.get i with
    | none => exact hg
    | some o => have := allLt_spec hlt i o (subget i o hg); simp only at hi; omega
  obtain ⟨hgo, hc⟩ := hs φ w args' hrs hws hva hfree
  refine ⟨hgo, hc.mono fun en w' hret => ?_⟩
  obtain ⟨φ', v', rfl, hvr, hf⟩ := hret
  have hsub' := hf.goes.sub hfree
  -- what lives behind it
  have final : ∀ i o, h3.get i = some o → (h1.get i = some o) ∨ (hb.get i = none ∧ h0.get i = some o ∧ ∀ o', (i, o') ∉ c.after) := by
    intro i o hi
    rcases dropAll_spec hdrop i with ⟨_, d2⟩ | ⟨d1, d2⟩
    · rw [hi] at d2; cases d2
    · rw [hi] at d2
      rcases setAll_spec hset i with ⟨o', m1, m2⟩ | ⟨m1, m2⟩
      · rw [← d2] at m2; injection m2 with m2; subst m2
        exact .inl (hasAll_spec g3 i o m1)
      · rw [← d2] at m2
        cases hbi : hb.get i with
        | none => exact .inr ⟨rfl, m2.symm, m1⟩
        | some ob =>
          have hob := subget i ob hbi
          rcases keptAll_spec g4 i ob hob with ⟨o', ho'⟩ | hg | hk
          · exact absurd ho' (m1 o')
          · exact absurd hg d1
          · have := suble i ob hbi
            rw [← m2] at this; injection this with this; subst this
            exact .inl hk
  have rest : ∀ i o b N, hb.get i = none → h0.get i = some o → φ i = some (b, N) → Idle φ ⟨hb, c.next⟩ b ∧ b < w.heap.size := by
    intro i o b N hbi h0i hφ
    refine ⟨fun j M hj => ?_, ?_⟩
    · cases hbj : hb.get j with
      | none => exact hbj
      | some oj =>
        have := hr.inj j i b M N hj hφ (by show h0.get j ≠ none; rw [suble j oj hbj]; simp) (by show h0.get i ≠ none; rw [h0i]; simp)
        subst this; rw [hbi] at hbj; cases hbj
    · obtain ⟨cc, c1, _⟩ := hr.obj i b N o hφ h0i
      exact (Array.getElem?_eq_some_iff.1 c1).1
  have oldφ : ∀ i o, h0.get i = some o → φ' i = φ i := fun i o hi => hf.goes.old i (.inl (hw.lt (s := ⟨h0, c.next⟩) hi))
  have mixed : ∀ j k b M N, h1.get j ≠ none → (∃ ok, hb.get k = none ∧ h0.get k = some ok) → φ' j = some (b, M) → φ' k = some (b, N) → False := by
    rintro j k b M N hj ⟨ok, hbk, h0k⟩ hφj hφk
    rw [oldφ k ok h0k] at hφk
    obtain ⟨i1, i2⟩ := rest k ok b N hbk h0k hφk
    by_cases hjn : j < c.next
    · rw [hf.goes.old j (.inl hjn)] at hφj
      exact hj (hf.goes.dead j hjn (i1 j M hφj))
    · have hj1 : j < c.next' := by
        cases hg : h1.get j with
        | none => exact absurd hg hj
        | some oj => exact hf.wf.lt (s := ⟨h1, c.next'⟩) hg
      rcases hf.goes.fresh j b M (by simp only; omega) hj1 hφj with hb' | ⟨q, Mq, _, a2, a3⟩
      · omega
      · exact a3 (i1 q Mq a2)
  refine ⟨φ', v', rfl, hvr, ⟨⟨fun i b N o hφ hi => ?_, fun i j b M N hφi hφj hi hj => ?_⟩, ⟨hf.goes.old, hf.goes.next, fun i b N a1 a2 a3 => ?_, fun i hi hg => ?_, fun b hb' hidle => hf.goes.keeps b hb' fun i N hi => ?_, hf.goes.size⟩, hf.calm, fun i hi => ?_⟩⟩
  · rcases final i o hi with h | ⟨hbi, h0i, _⟩
    · exact hf.rel.obj i b N o hφ h
    · rw [oldφ i o h0i] at hφ
      obtain ⟨cc, c1, c2⟩ := hr.obj i b N o hφ h0i
      obtain ⟨i1, i2⟩ := rest i o b N hbi h0i hφ
      exact ⟨cc, by rw [hf.goes.keeps b i2 i1]; exact c1, c2.mono hsub'⟩
  · cases hgi : h3.get i with
    | none => exact absurd hgi hi
    | some oi =>
    cases hgj : h3.get j with
    | none => exact absurd hgj hj
    | some oj =>
    rcases final i oi hgi with h | ⟨hbi, h0i, _⟩ <;> rcases final j oj hgj with h' | ⟨hbj, h0j, _⟩
    · exact hf.rel.inj i j b M N hφi hφj (by show h1.get i ≠ none; rw [h]; simp) (by show h1.get j ≠ none; rw [h']; simp)
    · exact (mixed i j b M N (by rw [h]; simp) ⟨oj, hbj, h0j⟩ hφi hφj).elim
    · exact (mixed j i b N M (by rw [h']; simp) ⟨oi, hbi, h0i⟩ hφj hφi).elim
    · rw [oldφ i oi h0i] at hφi; rw [oldφ j oj h0j] at hφj
      exact hr.inj i j b M N hφi hφj (by show h0.get i ≠ none; rw [h0i]; simp) (by show h0.get j ≠ none; rw [h0j]; simp)
  · rcases hf.goes.fresh i b N a1 a2 a3 with h | ⟨q, M, b1, b2, b3⟩
    · exact .inl h
    · refine .inr ⟨q, M, b1, b2, fun hq => b3 ?_⟩
      cases hbq : hb.get q with
      | none => exact hbq
      | some oq => have := suble q oq hbq; rw [show h0.get q = none from hq] at this; cases this
  · cases hg3 : h3.get i with
    | none => exact hg3
    | some oi =>
      rcases final i oi hg3 with h | ⟨_, h0i, _⟩
      · have hbn : hb.get i = none := by
          cases hbi : hb.get i with
          | none => rfl
          | some ob => have := suble i ob hbi; rw [show h0.get i = none from hg] at this; cases this
        have := hf.goes.dead i hi hbn
        rw [show h1.get i = none from this] at h; cases h
      · rw [show h0.get i = none from hg] at h0i; cases h0i
  · cases hbi : hb.get i with
    | none => exact hbi
    | some ob => have h00 : h0.get i = none := hidle i N hi; have := suble i ob hbi; rw [h00] at this; cases this
  · cases hg3 : h3.get i with
    | none => exact hg3
    | some oi =>
      rcases final i oi hg3 with h | ⟨_, h0i, _⟩
      · have := hf.wf.lt (s := ⟨h1, c.next'⟩) h
        simp only at this hi; omega
      · have := hw.lt (s := ⟨h0, c.next⟩) h0i
        have := hm
        simp only at *; omega

end Go.AM

namespace Go.AM

variable {P : Program}

/-- the first that fits -/
def runAny : List Chunk → KF
  | [] => fun _ _ => none
  | c :: cs => fun args s => match c.run args s with
    | some r => some r
    | none => runAny cs args s

theorem runAny_spec {args : List V} {s : St} {r : V × St} : ∀ {cs : List Chunk}, runAny cs args s = some r → ∃ c ∈ cs, c.run args s = some r
  | [], h => by cases h
  | c :: cs, h => by
    simp only [runAny] at h
    cases hc : c.run args s with
    | some r' => rw [hc] at h; injection h with h; subst h; exact ⟨c, List.mem_cons_self .., hc⟩
    | none =>
      rw [hc] at h
      obtain ⟨c', h1, h2⟩ := runAny_spec h
      exact ⟨c', List.mem_cons_of_mem _ h1, h2⟩

/-- chunks that have been run make a known function -/
theorem KOK.chunks {K : Known} (h : KOK P K) {e : Ev} (he : EvOK P e) {f : FuncId} {cs : List Chunk} (hok : ∀ c ∈ cs, c.ok e f = true) : KOK P (K.add f false (runAny cs)) := by
  intro f' d' g' hK args s v s' hv
  rcases add_spec hK with ⟨rfl, rfl, rfl⟩ | hK
  · obtain ⟨c, hc, hr⟩ := runAny_spec hv
    obtain ⟨hm, hs⟩ := c.sound he (hok c hc) hr
    refine ⟨hm, fun φ w args' hr hw ha hfree => .inr ?_⟩
    obtain ⟨h1, h2⟩ := hs φ w args' hr hw ha hfree
    exact ⟨h1, h2, fun hd => by cases hd⟩
  · exact h f' d' g' hK args s v s' hv

end Go.AM

namespace Go.AM

/-! ### short words for recorded objects -/

def rp (n : Nat) (v : V) (rest : List V) : List V := Nat.rec rest (fun _ ih => v :: ih) n
def bs : List Nat → List V → List V
  | [], rest => rest
  | b :: l, rest => .int .u8 (.ofNat b) :: bs l rest
def vs (l : List V) (rest : List V) : List V := l ++ rest
def co (l : List V) : O := match Tr.ofL l with
  | some t => .cells t l.length
  | none => .cells .e 0
def i6 (n : Nat) : V := .int .i64 (.ofNat n)
def u6 (n : Nat) : V := .int .u64 (.ofNat n)
def u3 (n : Nat) : V := .int .u32 (.ofNat n)
def u8 (n : Nat) : V := .int .u8 (.ofNat n)
def stB (l : List UInt8) : V := .str ⟨⟨l⟩⟩

end Go.AM
