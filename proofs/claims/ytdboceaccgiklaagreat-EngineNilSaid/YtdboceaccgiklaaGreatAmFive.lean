/-
  Proves that what the evaluator says of statements and calls is so in the model, where the level below it tells the truth.
-/
import Derived.Test.YtdboceaccgiklaaGreatAmFour
import Derived.RangeFuncLeaves
import Derived.RangeFuncIn
import Derived.OrdersIn
set_option linter.all false
namespace Go.AM

/-- the fence that lets all in, in a round or not -/
def fen (r : Option Nat) : Fence := { fn := fun _ => True, depth := none, alive := false, round := r }

theorem fen_fn (r : Option Nat) (f : FuncId) : (fen r).fn f := trivial
theorem fen_depth (r : Option Nat) {p : Prop} (h : (fen r).depth.isSome = true) : p := by cases h

/-- a call ends so -/
def Ret (φ : Map) (s : St) (w : World) (v : V) (s' : St) : Ending → World → Prop := fun e w' => ∃ φ' v', e = .returned v' ∧ VR φ' v v' ∧ Fine φ s w φ' s' w'

def rndR (φ : Map) : Option Nat → Option Nat → Prop
  | none, none => True
  | some l, some b => ∃ N, φ l = some (b, N)
  | _, _ => False

theorem rndR.mono {φ φ' : Map} (hs : Sub φ φ') : ∀ {r b : Option Nat}, rndR φ r b → rndR φ' r b
  | none, none, _ => trivial
  | some _, some _, ⟨N, h⟩ => ⟨N, hs _ _ h⟩
  | none, some _, h => h.elim
  | some _, none, h => h.elim

def exitOf : X → Exit
  | .normal => .normal
  | .exit id => .exit id
  | .goto l => .goto l
  | .ret => .ret

/-- a statement ends so -/
def Post (φ : Map) (s : St) (w : World) (x : X) (a' : A) (s' : St) : Exit → Act → World → Prop := fun ex c' w' => ex = exitOf x ∧ ∃ φ', AR φ' a' c' ∧ Fine φ s w φ' s' w'

/-- a function of the program that is entered when it is called -/
def Go' (P : Program) (f : FuncId) : Prop := ∃ fn c, P.funcs[f]? = some fn ∧ (fn.name == "runtime.NumGoroutine") = false ∧ fn.body = some c

/-- the known functions are as they are -/
def KOK (P : Program) (K : Known) : Prop := ∀ f d g, K f = some (d, g) → ∀ args s v s', g args s = some (v, s') → s.next ≤ s'.next ∧
  ∀ (φ : Map) (w : World) (args' : List Value), HR φ s w → Wf s → VRs φ args args' → Free φ s s' →
    (d = false ∧ ∃ φ' v' w', (callFunc f ⟨args'⟩).run P w = .ok (.value v') w' ∧ VR φ' v v' ∧ Fine φ s w φ' s' w') ∨
    (Go' P f ∧ CallsIn (fen none) 0 P f ⟨args'⟩ w (Ret φ s w v s') ∧ (d = true → ∀ u, CallsDIn (fen none) 0 P f ⟨args'⟩ u w fun e u' w' => u' = u ∧ Ret φ s w v s' e w'))

/-- the evaluator tells the truth -/
structure EvOK (P : Program) (e : Ev) : Prop where
  code : ∀ rnd c a s x a' s', e.code rnd c a s = some (x, a', s') → s.next ≤ s'.next ∧
    ∀ (φ : Map) (ac : Act) (w : World) (rb : Option Nat), HR φ s w → Wf s → AR φ a ac → Free φ s s' → rndR φ rnd rb → c.wpIn (fen rb) 0 P (Post φ s w x a' s') ac w
  call : ∀ f args s v s', e.call f args s = some (v, s') → s.next ≤ s'.next ∧
    ∀ (φ : Map) (w : World) (args' : List Value), HR φ s w → Wf s → VRs φ args args' → Free φ s s' → Go' P f ∧ CallsIn (fen none) 0 P f ⟨args'⟩ w (Ret φ s w v s')
  round : ∀ l args s v s', e.round l args s = some (v, s') → s.next ≤ s'.next ∧
    ∀ (φ : Map) (w : World) (args' : List Value) (b N : Nat), φ l = some (b, N) → HR φ s w → Wf s → VRs φ args args' → Free φ s s' →
      ∃ fn tmps assign body, (Instr.yield b ⟨args'⟩).run P w = .ok (.round b fn tmps assign body) w ∧ RoundIn (fen none) 0 P b fn tmps assign body w (Ret φ s w v s')

variable {P : Program} {K : Known} {e : Ev} {φ : Map} {w : World} {s s' : St}

/-! ### one operation -/

/-- what an operation yields, and the state behind it -/
def opV (P : Program) (u : Sur) (a : A) (s : St) : Cl → Option (V × St)
  | .pure f => match f P fun x => evF x a with
    | some v => some (v, s)
    | none => none
  | .read f => match f P (fun x => evF x a) s with
    | some v => some (v, s)
    | none => none
  | .alloc f => match f P fun x => evF x a with
    | some (o, l) => wNew l (s.new o)
    | none => none
  | .write f => f P (fun x => evF x a) s
  | .call f xs => callOp u f xs a s
  | .defer _ _ => none
  | .no => none

theorem op1_opV {u : Sur} {dst : Option Tmp} {a : A} {c : Cl} (hd : ∀ f xs, c ≠ .defer f xs) : op1 P u dst a s c = outVS a dst (opV P u a s c) := by
  cases c with
  | pure f => simp only [op1, opV]; cases f P (fun x => evF x a) <;> rfl
  | read f => simp only [op1, opV]; cases f P (fun x => evF x a) s <;> rfl
  | alloc f => simp only [op1, opV]; cases f P (fun x => evF x a) with
    | none => rfl
    | some r => obtain ⟨o, l⟩ := r; rfl
  | write f => rfl
  | call f xs => rfl
  | defer f xs => exact absurd rfl (hd f xs)
  | no => rfl

theorem evs_evsR (a : A) : ∀ xs, evs a xs = evsR (fun x => evF x a) xs
  | [] => rfl
  | x :: xs => by simp only [evs, evsR, evs_evsR a xs]; try (cases evF x a <;> rfl)

theorem not_defer {o : Oper} {c : Cl} (h : cl o.op P = c) (hd : ∀ f xs, c ≠ .defer f xs) (hn : c ≠ .no) : ∀ d, o.op ≠ .defer d := by
  intro d e
  rw [e] at h
  simp only [cl, deferCl] at h
  split at h
  · exact hd _ _ h.symm
  · exact hn h.symm

theorem cl_call {o : Oper} {f : Operand} {xs : Array Operand} (h : cl o.op P = .call f xs) : ∃ c, o.op = .call c ∧ c.callee = .value f ∧ c.args = xs := by
  obtain ⟨dst, op, ty, pos, after, guard⟩ := o
  simp only at h
  cases op <;> simp only [cl] at h <;> first | (cases h; done) | skip
  case convert sr d x => unfold convCl at h; (repeat' split at h) <;> cases h
  case call c =>
    unfold callCl at h
    split at h
    · rename_i b hb
      cases b <;> simp only [builtinCl] at h <;> first | (cases h; done) | skip
      unfold lenCl at h; (repeat' split at h) <;> cases h
    · rename_i g hg; injection h with h1 h2; subst h1; subst h2; exact ⟨c, rfl, hg, rfl⟩
    · cases h
  case defer c => unfold deferCl at h; split at h <;> cases h

theorem callFunc_enter {f : FuncId} {args : Array Value} (h : Go' P f) : (callFunc f args).run P w = .ok (.enter f args) w := by
  obtain ⟨fn, c, h1, h2, h3⟩ := h
  have h2' : ¬ fn.name = "runtime.NumGoroutine" := by simpa using h2
  simp [callFunc, h1, h2', h3]

theorem call_arr {first' cap' : List Value} (xs : Array Operand) {ρc : Operand → Value} : ((⟨first'⟩ : Array Value) ++ xs.map ρc ++ (⟨cap'⟩ : Array Value)) = (⟨first' ++ (xs.toList.map ρc ++ cap')⟩ : Array Value) := by
  apply Array.ext'; simp

/-- ONE OPERATION -/
theorem op_sound (hK : KOK P K) (he : EvOK P e) {o : Oper} {c : Cl} {a : A} {r : Option Nat} {v : V} (hc : cl o.op P = c) (hv : opV P ⟨P, K, e, r⟩ a s c = some (v, s')) : s.next ≤ s'.next ∧
    ∀ (φ : Map) (ac : Act) (w : World) (rb : Option Nat), HR φ s w → Wf s → (∀ x ∈ o.op.operands.toList, Kn φ (fun x => evF x a) ac.eval x) → Free φ s s' →
      ∀ (k : Act → World → Prop) (Q : Exit → Act → World → Prop), (∀ φ' v' w', VR φ' v v' → Fine φ s w φ' s' w' → k (ac.put o.dst v') w') → o.wpIn (fen rb) 0 P ac w k Q := by
  have fin : ∀ {sm} (φ : Map) (ac : Act) (w : World) (rb : Option Nat) (k : Act → World → Prop) (Q : Exit → Act → World → Prop) {v' : Value} {w' : World}, (∀ d, o.op ≠ .defer d) → execOp ac.eval o = sm → sm.run P w = .ok (.value v') w' → k (ac.put o.dst v') w' → o.wpIn (fen rb) 0 P ac w k Q := by
    intro sm φ ac w rb k Q v' w' hnd h1 h2 h3
    refine ⟨fun f _ => trivial, ?_⟩
    rw [Oper.semAt_eq _ _ _ hnd, h1, h2]; exact h3
  cases c with
  | pure f =>
    simp only [opV] at hv
    cases hf : f P (fun x => evF x a) with
    | none => rw [hf] at hv; cases hv
    | some v1 =>
      rw [hf] at hv; injection hv with hv; injection hv with e1 e2; subst e1; subst e2
      refine ⟨Nat.le_refl _, fun φ ac w rb h hw hk _ k Q hcont => ?_⟩
      obtain ⟨v', h1, h2⟩ := pure_sound (w := w) hc hk hf
      exact fin φ ac w rb k Q (not_defer hc (by intros; simp) (by simp)) rfl h1 (hcont φ v' w h2 (Fine.refl h hw))
  | read f =>
    simp only [opV] at hv
    cases hf : f P (fun x => evF x a) s with
    | none => rw [hf] at hv; cases hv
    | some v1 =>
      rw [hf] at hv; injection hv with hv; injection hv with e1 e2; subst e1; subst e2
      refine ⟨Nat.le_refl _, fun φ ac w rb h hw hk _ k Q hcont => ?_⟩
      obtain ⟨v', h1, h2⟩ := read_sound (w := w) hc hk h hf
      exact fin φ ac w rb k Q (not_defer hc (by intros; simp) (by simp)) rfl h1 (hcont φ v' w h2 (Fine.refl h hw))
  | alloc f =>
    simp only [opV] at hv
    cases hf : f P (fun x => evF x a) with
    | none => rw [hf] at hv; cases hv
    | some ol =>
      obtain ⟨ob, l⟩ := ol
      rw [hf] at hv; simp only at hv
      obtain ⟨i, hn, hve⟩ := wNew_spec hv
      refine ⟨wNew_next hv, fun φ ac w rb h hw hk hfree k Q hcont => ?_⟩
      obtain ⟨N, obj, v', w', h1, h2, h3, h4, h5⟩ := alloc_sound (w := w) hc hk hf
      subst hve
      exact fin φ ac w rb k Q (not_defer hc (by intros; simp) (by simp)) rfl h1
        (hcont (φ.upd i (w.heap.size, N)) v' w' (h5 _ _ (Map.upd_same _ _ _)) (new_fine h hw hn (hfree.at (new_spec hn).2.1) h2 h4 h3 h.lt'))
  | write f =>
    simp only [opV] at hv
    refine ⟨write_next hc hv, fun φ ac w rb h hw hk hfree k Q hcont => ?_⟩
    obtain ⟨φ', w', r', v', h1, h2, h3, h4⟩ := write_sound (w := w) hc hk h hw hv hfree
    refine ⟨fun f _ => trivial, ?_⟩
    rw [Oper.semAt_eq _ _ _ (not_defer hc (by intros; simp) (by simp)), h1]
    rcases h2 with rfl | ⟨rfl, rfl⟩
    · exact hcont φ' v' w' h3 h4
    · exact hcont φ' Go.undef w' h3 h4
  | call f xs =>
    simp only [opV] at hv
    obtain ⟨c, ho, hcal, hargs⟩ := cl_call hc
    subst hargs
    unfold callOp at hv
    cases hfv : evF f a with
    | none => rw [hfv] at hv; cases hv
    | some fv =>
      rw [hfv] at hv
      cases fv <;> first | (cases hv; done) | skip
      case fn g first cap =>
        simp only at hv
        cases hxs : evs a c.args.toList with
        | none => rw [hxs] at hv; cases hv
        | some l =>
          rw [hxs] at hv; simp only [callFn] at hv
          have conc : ∀ (φ : Map) (ac : Act) (w : World), (∀ x ∈ o.op.operands.toList, Kn φ (fun x => evF x a) ac.eval x) →
              ∃ args', VRs φ (first ++ (l ++ cap)) args' ∧ execOp ac.eval o = (do let d ← resolve ac.eval c o.type; invoke d.target d.args) ∧ (execOp ac.eval o).run P w = (callFunc g ⟨args'⟩).run P w := by
            intro φ ac w hk
            have hf := hk f (by rw [ho]; simp [Op.operands, Call.operands, hcal]) _ hfv
            generalize hg : ac.eval f = fc at hf
            cases hf with
            | @fn _ _ _ first' cap' h1 h2 =>
            have h3 := evsR_VRs (xs := c.args.toList) (ρ := fun x => evF x a) (ρc := ac.eval) (fun x hx => hk x (by rw [ho]; simp [Op.operands, Call.operands, hcal]; exact .inr (by simpa using hx))) (by rw [← evs_evsR]; exact hxs)
            refine ⟨first' ++ (c.args.toList.map ac.eval ++ cap'), h1.append (h3.append h2), by simp only [execOp, ho], ?_⟩
            simp only [execOp, ho, resolve, hcal, Deferred.ofValue, hg, Sem.run_bind, Sem.run_pure, Result.andThen_ok, invoke]
            rw [← call_arr c.args]
          have hnd : ∀ d, o.op ≠ .defer d := by intro d e; rw [ho] at e; cases e
          have enter : ∀ (φ : Map) (ac : Act) (w : World) (rb : Option Nat) (args' : List Value) (k : Act → World → Prop) (Q : Exit → Act → World → Prop), (execOp ac.eval o).run P w = (callFunc g ⟨args'⟩).run P w → Go' P g → CallsIn (fen none) 0 P g ⟨args'⟩ w (Ret φ s w v s') →
              (∀ φ' v' w', VR φ' v v' → Fine φ s w φ' s' w' → k (ac.put o.dst v') w') → o.wpIn (fen rb) 0 P ac w k Q := by
            intro φ ac w rb args' k Q h1 h2 h3 hcont
            refine ⟨fun f _ => trivial, ?_⟩
            rw [Oper.semAt_eq _ _ _ hnd, h1, callFunc_enter h2, Oper.uponIn_enter]
            refine ⟨fun h => fen_depth rb h, ?_⟩
            have : CallsIn (fen rb) 0 P g ⟨args'⟩ w (Ret φ s w v s') := h3
            refine this.mono fun e w' he => ?_
            obtain ⟨φ', v', rfl, hvr, hfine⟩ := he
            exact hcont φ' v' w' hvr hfine
          cases hKf : K g with
          | some kg =>
            obtain ⟨d, kf⟩ := kg
            rw [hKf] at hv; simp only at hv
            obtain ⟨hm, hsound⟩ := hK g d kf hKf _ _ _ _ hv
            refine ⟨hm, fun φ ac w rb h hw hk hfree k Q hcont => ?_⟩
            obtain ⟨args', ha1, ha2, ha3⟩ := conc φ ac w hk
            rcases hsound φ w args' h hw ha1 hfree with ⟨_, φ', v', w', h1, h2, h3⟩ | ⟨h1, h2, _⟩
            · exact fin φ ac w rb k Q hnd rfl (ha3.trans h1) (hcont φ' v' w' h2 h3)
            · exact enter φ ac w rb args' k Q ha3 h1 h2 hcont
          | none =>
            rw [hKf] at hv; simp only at hv
            obtain ⟨hm, hsound⟩ := he.call _ _ _ _ _ hv
            refine ⟨hm, fun φ ac w rb h hw hk hfree k Q hcont => ?_⟩
            obtain ⟨args', ha1, ha2, ha3⟩ := conc φ ac w hk
            obtain ⟨h1, h2⟩ := hsound φ w args' h hw ha1 hfree
            exact enter φ ac w rb args' k Q ha3 h1 h2 hcont
      case yld l =>
        simp only at hv
        cases hxs : evs a c.args.toList with
        | none => rw [hxs] at hv; cases hv
        | some vs =>
          rw [hxs] at hv; simp only at hv
          obtain ⟨hm, hsound⟩ := he.round _ _ _ _ _ hv
          refine ⟨hm, fun φ ac w rb h hw hk hfree k Q hcont => ?_⟩
          have hnd : ∀ d, o.op ≠ .defer d := by intro d e; rw [ho] at e; cases e
          have hf := hk f (by rw [ho]; simp [Op.operands, Call.operands, hcal]) _ hfv
          generalize hg : ac.eval f = fc at hf
          cases hf with
          | @yld _ b N hφ =>
          have h3 := evsR_VRs (xs := c.args.toList) (ρ := fun x => evF x a) (ρc := ac.eval) (fun x hx => hk x (by rw [ho]; simp [Op.operands, Call.operands, hcal]; exact .inr (by simpa using hx))) (by rw [← evs_evsR]; exact hxs)
          obtain ⟨fn, tmps, assign, body, h1, h2⟩ := hsound φ w _ b N hφ h hw h3 hfree
          refine ⟨fun f _ => trivial, ?_⟩
          have hrun : (execOp ac.eval o).run P w = .ok (.round b fn tmps assign body) w := by
            have ea : (#[] : Array Value) ++ c.args.map ac.eval = ⟨c.args.toList.map ac.eval⟩ := by apply Array.ext'; simp
            simp only [execOp, ho, resolve, hcal, Deferred.ofValue, hg, Sem.run_bind, Sem.run_pure, Result.andThen_ok, invoke, ea]
            exact h1
          rw [Oper.semAt_eq _ _ _ hnd, hrun, Oper.uponIn_round]
          refine ⟨fun h => fen_depth rb h, ?_⟩
          have : RoundIn (fen rb) 0 P b fn tmps assign body w (Ret φ s w v s') := h2
          refine this.mono fun e w' he => ?_
          obtain ⟨φ', v', rfl, hvr, hfine⟩ := he
          exact hcont φ' v' w' hvr hfine
  | defer f xs => cases hv
  | no => cases hv

end Go.AM

namespace Go.AM

variable {P : Program} {K : Known} {e : Ev} {φ : Map} {w : World} {s s' : St}

theorem VR.undef_iff {φ : Map} {v' : Value} (h : VR φ V.undef v') : v' = Go.undef := by
  cases h with
  | tup h => cases h; rfl

theorem setT_spec {t t' : Tr V} {n i : Nat} {v : V} (h : setT t n i v = some t') : i < n ∧ t.set i (some v) = some t' := by
  unfold setT at h
  split at h
  · rename_i hb; exact ⟨Nat.le_of_ble_eq_true hb, h⟩
  · cases h

theorem TmR.set {φ : Map} {t t' : Tr V} {n i : Nat} {c : Array Value} {v : V} {v' : Value} (h : TmR φ t n c) (hs : setT t n i v = some t') (hv : VR φ v v') : TmR φ t' n (c.setIfInBounds i v') := by
  obtain ⟨hi, hs⟩ := setT_spec hs
  have hsz := h.size
  refine ⟨by simp [hsz], fun j u hj => ?_, fun j hj => ?_⟩
  · rw [get_set hs] at hj
    by_cases e : j = i
    · subst e
      rw [if_pos rfl] at hj; injection hj with hj; subst hj
      have : (c.setIfInBounds j v').getD j Go.undef = v' := by simp [Array.getD, hsz, hi]
      rw [this]; exact hv
    · rw [if_neg e] at hj
      have : (c.setIfInBounds i v').getD j Go.undef = c.getD j Go.undef := by
        rw [Array.getD_eq_getD_getElem?, Array.getD_eq_getD_getElem?, Array.getElem?_setIfInBounds_ne (fun h => e h.symm)]
      rw [this]; exact h.got j u hj
  · rw [get_set hs] at hj
    by_cases e : j = i
    · subst e; rw [if_pos rfl] at hj; cases hj
    · rw [if_neg e] at hj
      have : (c.setIfInBounds i v').getD j Go.undef = c.getD j Go.undef := by
        rw [Array.getD_eq_getD_getElem?, Array.getD_eq_getD_getElem?, Array.getElem?_setIfInBounds_ne (fun h => e h.symm)]
      rw [this]; exact h.none j hj

theorem AR.put {φ : Map} {a a' : A} {ac : Act} {d : Option Tmp} {v : V} {v' : Value} (h : AR φ a ac) (hp : a.put d v = some a') (hv : VR φ v v') : AR φ a' (ac.put d v') := by
  cases d with
  | none => simp only [A.put] at hp; injection hp with hp; subst hp; exact h
  | some d =>
    obtain ⟨t, n, ds⟩ := a
    simp only [A.put] at hp
    cases hs : setT t n d v with
    | none => rw [hs] at hp; cases hp
    | some t' =>
      rw [hs] at hp; injection hp with hp; subst hp
      exact ⟨h.tmps.set hs hv, h.defers⟩

theorem outVS_spec {a a' : A} {d : Option Tmp} {r : Option (V × St)} (h : outVS a d r = some (a', s')) : ∃ v, r = some (v, s') ∧ a.put d v = some a' := by
  unfold outVS at h
  split at h
  · rename_i v s1
    split at h
    · rename_i a1 ha; injection h with h; injection h with h1 h2; subst h1; subst h2; exact ⟨v, rfl, ha⟩
    · cases h
  · cases h

theorem outV_spec {a a' : A} {d : Option Tmp} {r : Option V} (h : outV a d s r = some (a', s')) : ∃ v, r = some v ∧ a.put d v = some a' ∧ s' = s := by
  unfold outV at h
  split at h
  · rename_i v
    split at h
    · rename_i a1 ha; injection h with h; injection h with h1 h2; subst h1; subst h2; exact ⟨v, rfl, ha, rfl⟩
    · cases h
  · cases h

/-- is an operation asked for: here as there -/
theorem wanted_eq {ops : Array Oper} {a : A} {ac : Act} (h : AR φ a ac) (o : Oper) : wantedV ops.toList a o.guard = Region.wanted o (yielded ops ac.tmps) := by
  unfold wantedV Region.wanted
  cases hg : o.guard with
  | none => rfl
  | some g =>
    obtain ⟨j, want⟩ := g
    simp only [guardV, yielded]
    rw [Array.getElem?_toList]
    cases hp : ops[j]? with
    | none => rfl
    | some p =>
      cases hd : p.dst with
      | none => simp [hd]
      | some d =>
        have ht := h.tm d
        simp only [Option.bind_some, hd]
        cases hv : ac.tmps[d]? with
        | none =>
          rw [Array.getD_eq_getD_getElem?, hv] at ht
          generalize a.tm d = u at ht
          cases ht; rfl
        | some cv =>
          rw [Array.getD_eq_getD_getElem?, hv] at ht
          simp only [Option.getD_some] at ht
          generalize a.tm d = u at ht
          cases ht <;> first | rfl | skip

def step1 (P : Program) (u : Sur) (ops : List Oper) (o : Oper) (a : A) (s : St) : Two := match wantedV ops a o.guard with
  | true => op1 P u o.dst a s (cl o.op P)
  | false => outV a o.dst s (some V.undef)

theorem opsStep_eq (u : Sur) (ops : List Oper) (o : Oper) (k : A → St → Two) (a : A) (s : St) : opsStep P u ops o k a s = opsK k (step1 P u ops o a s) := by
  obtain ⟨dst, op, t, p, af, g⟩ := o
  simp only [opsStep, step1]
  cases wantedV ops a g <;> rfl

theorem opsK_spec {k : A → St → Two} {r : Two} {x : A × St} (h : opsK k r = some x) : ∃ a s, r = some (a, s) ∧ k a s = some x := by
  unfold opsK at h
  split at h
  · exact ⟨_, _, rfl, h⟩
  · cases h

theorem deferOp_spec {f : Operand} {xs : Array Operand} {a : A} {d : D} (h : deferOp f xs a = some d) : ∃ g first cap l, evF f a = some (.fn g first cap) ∧ evs a xs.toList = some l ∧ d = .call g (first ++ (l ++ cap)) := by
  unfold deferOp at h
  split at h
  · rename_i g first cap hf
    split at h
    · rename_i l hl; injection h with h; exact ⟨g, first, cap, l, hf, hl, h.symm⟩
    · cases h
  · cases h

theorem cl_defer {o : Oper} {f : Operand} {xs : Array Operand} (h : cl o.op P = .defer f xs) : ∃ c, o.op = .defer c ∧ c.callee = .value f ∧ c.args = xs := by
  obtain ⟨dst, op, ty, pos, after, guard⟩ := o
  simp only at h
  cases op <;> simp only [cl] at h <;> first | (cases h; done) | skip
  case convert sr d x => unfold convCl at h; (repeat' split at h) <;> cases h
  case call c =>
    unfold callCl at h
    split at h
    · rename_i b hb
      cases b <;> simp only [builtinCl] at h <;> first | (cases h; done) | skip
      unfold lenCl at h; (repeat' split at h) <;> cases h
    · cases h
    · cases h
  case defer c =>
    unfold deferCl at h
    split at h
    · rename_i g hg; injection h with h1 h2; subst h1; subst h2; exact ⟨c, rfl, hg, rfl⟩
    · cases h

/-- one operation of a region, in the activation -/
theorem step_sound (hK : KOK P K) (he : EvOK P e) {ops : Array Oper} {i : Nat} {o : Oper} (ho : ops[i]? = some o) {a a' : A} {r : Option Nat} (hv : step1 P ⟨P, K, e, r⟩ ops.toList o a s = some (a', s')) : s.next ≤ s'.next ∧
    ∀ (φ : Map) (ac : Act) (w : World) (rb : Option Nat), HR φ s w → Wf s → AR φ a ac → Free φ s s' → rndR φ r rb →
      ∀ (k : Act → World → Prop) (Q : Exit → Act → World → Prop), (∀ φ' ac' w', AR φ' a' ac' → Fine φ s w φ' s' w' → k ac' w') → wpOpIn (fen rb) 0 P ops Q i k ac w := by
  unfold step1 at hv
  cases hw : wantedV ops.toList a o.guard with
  | false =>
    rw [hw] at hv; simp only at hv
    obtain ⟨v, h1, h2, h3⟩ := outV_spec hv
    subst h3
    refine ⟨Nat.le_refl _, fun φ ac w rb h hwf har hfree hr k Q hk => ?_⟩
    injection h1 with h1; subst h1
    unfold wpOpIn
    simp only [ho]
    rw [← wanted_eq har, hw]
    simp only [Bool.false_eq_true, if_false]
    exact ⟨fun f _ => trivial, hk φ _ w (har.put h2 (VR.undef φ)) (Fine.refl h hwf)⟩
  | true =>
    rw [hw] at hv; simp only at hv
    have go : ∀ (φ : Map) (ac : Act) (w : World) (rb : Option Nat) (k : Act → World → Prop) (Q : Exit → Act → World → Prop), AR φ a ac → o.wpIn (fen rb) 0 P ac w k Q → wpOpIn (fen rb) 0 P ops Q i k ac w := by
      intro φ ac w rb k Q har h
      unfold wpOpIn
      simp only [ho]
      rw [← wanted_eq har, hw, if_pos rfl]
      exact h
    by_cases hd : ∃ f xs, cl o.op P = .defer f xs
    · obtain ⟨f, xs, hd⟩ := hd
      rw [hd] at hv
      obtain ⟨c, hop, hcal, hargs⟩ := cl_defer hd
      subst hargs
      simp only [op1, outD] at hv
      cases r with
      | some l => cases hv
      | none =>
        simp only at hv
        cases hdo : deferOp f c.args a with
        | none => rw [hdo] at hv; cases hv
        | some d =>
          rw [hdo] at hv
          obtain ⟨g, first, cap, l, h1, h2, rfl⟩ := deferOp_spec hdo
          obtain ⟨t, n, ds⟩ := a
          simp only at hv
          cases hp : A.put ⟨t, n, D.call g (first ++ (l ++ cap)) :: ds⟩ o.dst V.undef with
          | none => rw [hp] at hv; cases hv
          | some a1 =>
            rw [hp] at hv; injection hv with hv; injection hv with e1 e2; subst e1; subst e2
            refine ⟨Nat.le_refl _, fun φ ac w rb h hwf har hfree hr k Q hk => ?_⟩
            have hrb : rb = none := by cases rb with | none => rfl | some b => exact hr.elim
            subst hrb
            refine go φ ac w none k Q har ⟨fun f _ => trivial, ?_⟩
            have hf := evF_VR har f h1
            have hl := evs_VRs har h2
            generalize hg : ac.eval f = fc at hf
            cases hf with
            | @fn _ _ _ first' cap' q1 q2 =>
            have hrun : (execOp ac.eval o).run P w = .ok (.defer { target := .fn (.func g) ⟨cap'⟩, args := ⟨first'⟩ ++ c.args.map ac.eval }) w := by
              simp only [execOp, hop, resolve, hcal, Deferred.ofValue, hg, Sem.run_bind, Sem.run_pure, Result.andThen_ok]
            have hsem : Oper.semAt (fen none).round ac.eval o = execOp ac.eval o := rfl
            rw [hsem, hrun, Oper.uponIn_defer]
            refine hk φ _ w ?_ (Fine.refl h hwf)
            have har2 : AR φ ⟨t, n, D.call g (first ++ (l ++ cap)) :: ds⟩ { ac with defers := { target := .fn (.func g) ⟨cap'⟩, args := ⟨first'⟩ ++ c.args.map ac.eval } :: ac.defers } :=
              ⟨har.tmps, .call (by
                have : ((⟨first'⟩ : Array Value) ++ c.args.map ac.eval).toList ++ (⟨cap'⟩ : Array Value).toList = first' ++ (c.args.toList.map ac.eval ++ cap') := by simp
                rw [this]; exact q1.append (hl.append q2)) har.defers⟩
            exact har2.put hp (VR.undef φ)
    · have hd' : ∀ f xs, cl o.op P ≠ .defer f xs := fun f xs e => hd ⟨f, xs, e⟩
      rw [op1_opV hd'] at hv
      obtain ⟨v, h1, h2⟩ := outVS_spec hv
      obtain ⟨hm, hs⟩ := op_sound hK he rfl h1
      refine ⟨hm, fun φ ac w rb h hwf har hfree hr k Q hk => go φ ac w rb k Q har ?_⟩
      refine hs φ ac w rb h hwf (fun x _ v hx => evF_VR har x hx) hfree k Q fun φ' v' w' hvr hfine => ?_
      exact hk φ' _ w' ((har.mono (hfine.goes.sub hfree)).put h2 hvr) hfine

/-- a region in the text's order -/
theorem regL_sound (hK : KOK P K) (he : EvOK P e) {ops : Array Oper} {r : Option Nat} : ∀ (rest : List Oper) (i : Nat) (a a' : A) (s s' : St), ops.toList.drop i = rest → opsL P ⟨P, K, e, r⟩ ops.toList rest a s = some (a', s') → s.next ≤ s'.next ∧
    ∀ (φ : Map) (ac : Act) (w : World) (rb : Option Nat), HR φ s w → Wf s → AR φ a ac → Free φ s s' → rndR φ r rb →
      ∀ (Q : Exit → Act → World → Prop), (∀ φ' ac' w', AR φ' a' ac' → Fine φ s w φ' s' w' → Q .normal ac' w') → wpOpsIn (fen rb) 0 P ops Q (List.range' i rest.length) ac w := by
  intro rest
  induction rest with
  | nil =>
    intro i a a' s s' _ h
    simp only [opsL] at h
    injection h with h; injection h with h1 h2; subst h1; subst h2
    exact ⟨Nat.le_refl _, fun φ ac w rb h hw har _ _ Q hk => hk φ ac w har (Fine.refl h hw)⟩
  | cons o rest ih =>
    intro i a a' s s' hd h
    simp only [opsL] at h
    rw [opsStep_eq] at h
    obtain ⟨a1, s1, h1, h2⟩ := opsK_spec h
    have hoi : ops[i]? = some o := by
      have := congrArg List.head? hd
      simp at this
      simpa using this
    have hd' : ops.toList.drop (i + 1) = rest := by
      rw [← List.drop_drop, hd]; rfl
    obtain ⟨m1, f1⟩ := step_sound hK he hoi h1
    obtain ⟨m2, f2⟩ := ih (i + 1) a1 a' s1 s' hd' h2
    refine ⟨Nat.le_trans m1 m2, fun φ ac w rb hh hw har hfree hr Q hk => ?_⟩
    rw [List.length_cons, List.range'_succ, wpOpsIn_cons]
    refine f1 φ ac w rb hh hw har (hfree.left m2) hr _ Q fun φ1 ac1 w1 har1 hf1 => ?_
    exact f2 φ1 ac1 w1 rb hf1.rel hf1.wf har1 (hf1.goes.free hfree) (hr.mono (hf1.goes.sub (hfree.left m2))) Q fun φ2 ac2 w2 har2 hf2 => hk φ2 ac2 w2 har2 (hf1.trans hf2)

end Go.AM

namespace Go.AM

/-! ### two laws of the walk that the kit hasn't -/

section
variable {F : Fence} {n : Nat} {P : Program} {Q : Exit → Act → World → Prop} {a : Act} {w : World}

/-- a loop, from where its body begins -/
def LoopIn (F : Fence) (n : Nat) (P : Program) (c : Code) (Q : Exit → Act → World → Prop) (a : Act) (w : World) : Prop :=
  ∀ (b : Frame) (k : List Item) (cs : List Frame), b.roundOf = F.round → F.fn b.fn → F.room (cs.length + 1 + n) →
    ∃ e a' w', Q e a' w' ∧ ArrivesIn (Machine.fenced P F) P (lone (b.atR a (.code c :: .inLoop c :: k)) cs w) b k cs e a' w'

theorem LoopIn.mono {c : Code} {Q' : Exit → Act → World → Prop} (h : LoopIn F n P c Q a w) (hq : ∀ e a w, Q e a w → Q' e a w) : LoopIn F n P c Q' a w :=
  fun b k cs hro hb hr => let ⟨e, a', w', q, r⟩ := h b k cs hro hb hr; ⟨e, a', w', hq _ _ _ q, r⟩

theorem wpIn_of_loopIn {c : Code} (h : LoopIn F n P c Q a w) : (Code.loop c).wpIn F n P Q a w := fun b k cs hro hb hr =>
  let ⟨e, a', w', q, r⟩ := h b k cs hro hb hr; ⟨e, a', w', q, .of_steps (.one (fenced_calm hb hr rfl) stepR_loop) r⟩

theorem loopIn_of_wpIn {c : Code} (h : c.wpIn F n P (Exit.then (LoopIn F n P c Q) Q) a w) : LoopIn F n P c Q a w := by
  intro b k cs hro hb hr
  obtain ⟨e, a₁, w₁, hq, harr⟩ := h b (.inLoop c :: k) cs hro hb hr
  cases e with
  | normal =>
    obtain ⟨e₂, a₂, w₂, hq₂, harr₂⟩ := hq b k cs hro hb hr
    exact ⟨e₂, a₂, w₂, hq₂, .of_steps (StepsIn.trans harr (.one (fenced_calm hb hr rfl) stepR_inLoop)) harr₂⟩
  | exit id => exact ⟨_, a₁, w₁, hq, .pass (x := .inLoop c) rfl (fun _ _ => .inl (by simp)) harr⟩
  | goto l => exact ⟨_, a₁, w₁, hq, .pass (x := .inLoop c) rfl (fun _ _ => .inl (by simp)) harr⟩
  | ret => exact ⟨_, a₁, w₁, hq, .pass (x := .inLoop c) rfl (fun _ _ => .inl (by simp)) harr⟩
  | panic ch => exact ⟨_, a₁, w₁, hq, .pass (x := .inLoop c) rfl (fun _ _ => .inl (by simp)) harr⟩
  | outgrown => exact ⟨_, a₁, w₁, hq, .pass (x := .inLoop c) rfl (fun _ _ => .inl (by simp)) harr⟩

theorem stepR_scope {b : Frame} {k : List Item} {cs : List Frame} {c : Code} : step P (lone (b.atR a (.code (.scope c) :: k)) cs w) = .next (lone (b.atR a (.code c :: .inScope c :: k)) cs w) :=
  step_lone_go (by simp [stepG, stepG.exec, Frame.atR])
theorem stepR_inScope {b : Frame} {k : List Item} {cs : List Frame} {c : Code} : step P (lone (b.atR a (.inScope c :: k)) cs w) = .next (lone (b.atR a k) cs w) :=
  step_lone_go (by simp [stepG, stepG.exec, Frame.atR])

theorem wpIn_scope {c : Code} (h : c.wpIn F n P (Exit.noGoto Q) a w) : (Code.scope c).wpIn F n P Q a w := by
  intro b k cs hro hb hr
  have h0 : (lone (b.atR a (.code (.scope c) :: k)) cs w).fenced P F := fenced_calm hb hr rfl
  obtain ⟨e, a₁, w₁, hq, harr⟩ := h b (.inScope c :: k) cs hro hb hr
  cases e with
  | normal => exact ⟨.normal, a₁, w₁, hq, .head h0 stepR_scope (StepsIn.trans harr (.one (fenced_calm hb hr rfl) stepR_inScope))⟩
  | exit id =>
    have hx : exitTo id (.inScope c :: k) = exitTo id k := by simp [exitTo]
    exact ⟨.exit id, a₁, w₁, hq, fun k' hk => .head h0 stepR_scope (harr.1 k' (by rw [hx]; exact hk)),
      fun hr' hk => let ⟨k₁, h1, h2⟩ := harr.2 hr' (by rw [hx]; exact hk); ⟨k₁, h1, .head h0 stepR_scope h2⟩⟩
  | goto l => exact hq.elim
  | ret => exact ⟨_, a₁, w₁, hq, .of_steps (.one h0 stepR_scope) harr⟩
  | panic ch => exact ⟨_, a₁, w₁, hq, .of_steps (.one h0 stepR_scope) harr⟩
  | outgrown => exact ⟨_, a₁, w₁, hq, .of_steps (.one h0 stepR_scope) harr⟩
end

variable {P : Program} {K : Known} {e : Ev} {φ : Map} {w : World} {s s' : St}

/-- the evaluator tells the truth of loops, from where their bodies begin -/
def LoopOK (P : Program) (e : Ev) : Prop := ∀ rnd c a s x a' s', e.code rnd (.loop c) a s = some (x, a', s') →
    ∀ (φ : Map) (ac : Act) (w : World) (rb : Option Nat), HR φ s w → Wf s → AR φ a ac → Free φ s s' → rndR φ rnd rb → LoopIn (fen rb) 0 P c (Post φ s w x a' s') ac w

/-- a region that draws its order -/
def DrawOK (P : Program) (K : Known) (e : Ev) : Prop := ∀ {ops : Array Oper} {r : Option Nat} {ws : List (Nat × Nat)} {a a' : A} {s s' : St}, drawOk P ops = some ws →
  opsD P ⟨P, K, e, r⟩ ops.toList ops.toList ws 0 a s [] [] = some (a', s') → s.next ≤ s'.next ∧
    ∀ (φ : Map) (ac : Act) (w : World) (rb : Option Nat), HR φ s w → Wf s → AR φ a ac → Free φ s s' → rndR φ r rb →
      ∀ (Q : Exit → Act → World → Prop), (∀ φ' ac' w', AR φ' a' ac' → Fine φ s w φ' s' w' → Q .normal ac' w') → ∀ t, wpOpsIn (fen rb) 0 P ops Q (Region.schedule (P.follows .mixedOrders) ops t) ac w

theorem Post.here {a : A} {ac : Act} {x : X} (h : HR φ s w) (hw : Wf s) (ha : AR φ a ac) : Post φ s w x a s (exitOf x) ac w := ⟨rfl, φ, ha, Fine.refl h hw⟩

theorem Post.trans {φ1 : Map} {s1 : St} {w1 : World} {x : X} {a' : A} (h : Fine φ s w φ1 s1 w1) : ∀ e ac w', Post φ1 s1 w1 x a' s' e ac w' → Post φ s w x a' s' e ac w' :=
  fun _ _ _ ⟨he, φ', ha, hf⟩ => ⟨he, φ', ha, h.trans hf⟩

theorem drew_fine (h : HR φ s w) (hw : Wf s) : Fine φ s w φ s { w with drawn := w.drawn + 1 } :=
  ⟨h.drawn _, ⟨fun _ _ => rfl, Nat.le_refl _, fun i b N h1 h2 _ => absurd (Nat.lt_of_le_of_lt h1 h2) (Nat.lt_irrefl _), fun _ _ h => h, fun _ _ _ => rfl, Nat.le_refl _⟩, ⟨rfl, rfl, rfl⟩, hw⟩

/-! ### records of loops -/

theorem getLp_spec {l : Nat} {r : Lp} (h : getLp s l = some r) : s.get l = some (.loop r) := by
  unfold getLp at h
  split at h
  · rename_i q hq; injection h with h; subst h; exact hq
  · cases h

theorem HR.loop (h : HR φ s w) {l b N : Nat} {r : Lp} (hl : φ l = some (b, N)) (hs : s.get l = some (.loop r)) : ∃ c, w.heap[b]? = some (.loop c) ∧ LR φ r c := by
  obtain ⟨c, h1, h2⟩ := h.obj l b N _ hl hs
  cases h2 with
  | loop h => exact ⟨_, h1, h⟩

theorem putObj_fine (h : HR φ s w) (hw : Wf s) {i b N : Nat} {o o' : O} {c' c : Obj} (hi : φ i = some (b, N)) (hs : s.get i = some o) (hc : w.heap[b]? = some c) (hp : s.put i (some o') = some s') (hr : OR φ N o' c') :
    Fine φ s w φ s' (w.putObj b c') := set_fine h hw hi hs hc hp hr

theorem alloc_fine (h : HR φ s w) (hw : Wf s) {i N : Nat} {o : O} {c : Obj} (hn : s.new o = some (i, s')) (hfree : φ s.next = none) (hr : OR φ N o c) : Fine φ s w (φ.upd i (w.heap.size, N)) s' (w.alloc c) :=
  new_fine h hw hn hfree rfl hr ⟨rfl, rfl, rfl⟩ h.lt'

/-! ### behind a range over a function -/

theorem after_sound {r : Option Nat} (he : EvOK P e) {l : Nat} {x : X} {a a' : A} (hv : cAfter ⟨P, K, e, r⟩ l a s = some (x, a', s')) : s.next ≤ s'.next ∧
    ∀ (φ : Map) (ac : Act) (w : World) (rb : Option Nat) (b N : Nat), HR φ s w → Wf s → AR φ a ac → Free φ s s' → rndR φ r rb → φ l = some (b, N) →
      ∃ jump w4, (Instr.endLoop b).run P w = .ok jump w4 ∧ (match jump with
        | none => Post φ s w x a' s' .normal ac w4
        | some c => c.wpIn (fen rb) 0 P (Post φ s w x a' s') ac w4) := by
  unfold cAfter at hv
  cases hg : getLp s l with
  | none => rw [hg] at hv; cases hv
  | some q =>
    rw [hg] at hv; simp only at hv
    have hs := getLp_spec hg
    have hv2 : q.state ≠ .busy ∧ (match s.put l (some (.loop { q with state := .exhausted })) with
        | some s' => match q.pending with
          | none => some (.normal, a, s')
          | some j => run1 ⟨P, K, e, r⟩ j a s'
        | none => none) = some (x, a', s') := by
      cases hst : q.state with
      | busy => rw [hst] at hv; cases hv
      | ready => rw [hst] at hv; exact ⟨by simp, hv⟩
      | done => rw [hst] at hv; exact ⟨by simp, hv⟩
      | exhausted => rw [hst] at hv; exact ⟨by simp, hv⟩
    obtain ⟨hnb, hv⟩ := hv2
    cases hp : s.put l (some (.loop { q with state := .exhausted })) with
    | none => rw [hp] at hv; cases hv
    | some s1 =>
      rw [hp] at hv; simp only at hv
      have hn1 := put_next hp
      have common : ∀ (φ : Map) (w : World) (b N : Nat), HR φ s w → Wf s → φ l = some (b, N) → ∃ jump w4, (Instr.endLoop b).run P w = .ok jump w4 ∧ jump = q.pending ∧ Fine φ s w φ s1 w4 := by
        intro φ w b N h hw hl
        obtain ⟨c, h1, h2⟩ := h.loop hl hs
        refine ⟨_, _, run_endLoop h1 (by rw [h2.state]; exact hnb), h2.pending, putObj_fine h hw hl hs h1 hp (.loop ⟨rfl, h2.pending, h2.tmps, h2.params, h2.assign, h2.body, h2.defers⟩)⟩
      cases hj : q.pending with
      | none =>
        rw [hj] at hv; simp only at hv
        injection hv with hv; injection hv with e1 hv; injection hv with e2 e3; subst e1; subst e2; subst e3
        refine ⟨by omega, fun φ ac w rb b N h hw ha _ _ hl => ?_⟩
        obtain ⟨jump, w4, h1, h2, h3⟩ := common φ w b N h hw hl
        exact ⟨_, _, h1, by rw [h2, hj]; exact ⟨rfl, φ, ha, h3⟩⟩
      | some j =>
        rw [hj] at hv; simp only [run1] at hv
        obtain ⟨m, f⟩ := he.code _ _ _ _ _ _ _ hv
        refine ⟨by omega, fun φ ac w rb b N h hw ha hfree hr hl => ?_⟩
        obtain ⟨jump, w4, h1, h2, h3⟩ := common φ w b N h hw hl
        refine ⟨_, _, h1, ?_⟩
        rw [h2, hj]
        exact wpIn_mono (f φ ac _ rb h3.rel h3.wf ha (h3.goes.free hfree) hr) (Post.trans h3)

end Go.AM

namespace Go.AM

variable {P : Program} {K : Known} {e : Ev} {φ : Map} {w : World} {s s' : St}

theorem Free.right {s1 : St} (hf : Free φ s s') (h : s.next ≤ s1.next) : ∀ i, s1.next ≤ i → i < s'.next → φ i = none := fun i a b => hf i (Nat.le_trans h a) b

/-- the call that a range over a function makes, behind the record -/
theorem range1_sound (hK : KOK P K) (he : EvOK P e) {r : Option Nat} {g : FuncId} {first cap : List V} {f : Operand} {params : Array Tmp} {assign body : Code} {x : X} {a a' : A} {l : Nat} {s1 : St}
    (hv : cRange1 ⟨P, K, e, r⟩ g first cap a (some (l, s1)) = some (x, a', s')) : s1.next ≤ s'.next ∧
    ∀ (φ : Map) (ac ac1 : Act) (w1 : World) (rb : Option Nat) (b N : Nat), HR φ s1 w1 → Wf s1 → AR φ a ac1 → Free φ s1 s' → rndR φ r rb → φ l = some (b, N) → VR φ (.fn g first cap) (ac.eval f) →
      ∃ (d : Deferred) (args : Array Value), (resolve ac.eval (rangeCall f b) 0).run P w1 = .ok d w1 ∧ (invoke d.target d.args).run P w1 = .ok (.enter g args) w1 ∧ CallsIn (fen rb) 0 P g args w1 (rangePost (fen rb) 0 P b (Post φ s1 w1 x a' s') ac1) := by
  simp only [cRange1] at hv
  cases hKg : K g with
  | some k => rw [hKg] at hv; cases hv
  | none =>
    rw [hKg] at hv; simp only at hv
    cases hc : e.call g (first ++ (.yld l :: cap)) s1 with
    | none => rw [hc] at hv; cases hv
    | some q =>
      obtain ⟨v, s2⟩ := q
      rw [hc] at hv; simp only at hv
      obtain ⟨m1, f1⟩ := he.call _ _ _ _ _ hc
      obtain ⟨m2, f2⟩ := after_sound he hv
      refine ⟨Nat.le_trans m1 m2, fun φ ac ac1 w1 rb b N h hw ha hfree hr hl hfv => ?_⟩
      generalize hg : ac.eval f = fc at hfv
      cases hfv with
      | @fn _ _ _ first' cap' q1 q2 =>
      have hargs : VRs φ (first ++ (.yld l :: cap)) (first' ++ (.func (.yield b) #[] #[] :: cap')) := q1.append (.cons (.yld hl) q2)
      obtain ⟨hgo, hcall⟩ := f1 φ w1 _ h hw hargs (hfree.left m2)
      have ea : (⟨first'⟩ : Array Value) ++ #[Value.func (.yield b) #[] #[]] ++ (⟨cap'⟩ : Array Value) = ⟨first' ++ (.func (.yield b) #[] #[] :: cap')⟩ := by apply Array.ext'; simp
      refine ⟨{ target := .fn (.func g) ⟨cap'⟩, args := ⟨first'⟩ ++ #[.func (.yield b) #[] #[]] }, ⟨first' ++ (.func (.yield b) #[] #[] :: cap')⟩, ?_, ?_, ?_⟩
      · have em : (#[Operand.const (.func (.yield b) #[] #[])]).map ac.eval = #[Value.func (.yield b) #[] #[]] := by simp [Act.eval]
        simp only [rangeCall, resolve, em, hg, Deferred.ofValue, Sem.run_pure]
      · simp only [invoke]; rw [ea]; exact callFunc_enter hgo
      · have hcall' : CallsIn (fen rb) 0 P g ⟨first' ++ (.func (.yield b) #[] #[] :: cap')⟩ w1 (Ret φ s1 w1 v s2) := hcall
        refine hcall'.mono fun en w2 hret => ?_
        obtain ⟨φ2, v', rfl, hvr, hf2⟩ := hret
        have hsub := hf2.goes.sub (hfree.left m2)
        obtain ⟨jump, w4, j1, j2⟩ := f2 φ2 ac1 w2 rb b N hf2.rel hf2.wf (ha.mono hsub) (hf2.goes.free hfree) (hr.mono hsub) (hsub _ _ hl)
        refine ⟨jump, w4, j1, ?_⟩
        cases jump with
        | none => exact Post.trans hf2 _ _ _ j2
        | some c => exact wpIn_mono j2 (Post.trans hf2)

theorem new_two {o : O} {i : Nat} {s1 : St} (h : s.new o = some (i, s1)) : s1.next = s.next + 1 := (new_spec h).2.1

theorem range_sound (hK : KOK P K) (he : EvOK P e) {r : Option Nat} {f : Operand} {params : Array Tmp} {assign body : Code} {x : X} {a a' : A}
    (hv : cRange f params assign body ⟨P, K, e, r⟩ a s = some (x, a', s')) : s.next ≤ s'.next ∧
    ∀ (φ : Map) (ac : Act) (w : World) (rb : Option Nat), HR φ s w → Wf s → AR φ a ac → Free φ s s' → rndR φ r rb → (Code.rangeFunc f params assign body).wpIn (fen rb) 0 P (Post φ s w x a' s') ac w := by
  unfold cRange at hv
  cases hfv : evF f a with
  | none => rw [hfv] at hv; cases hv
  | some fv =>
    rw [hfv] at hv
    cases fv <;> first | (cases hv; done) | skip
    rename_i g first cap
    obtain ⟨t, n, ds⟩ := a
    simp only at hv
    cases r with
    | some l0 =>
      simp only at hv
      cases hg0 : getLp s l0 with
      | none => rw [hg0] at hv; cases hv
      | some r0 =>
        rw [hg0] at hv; simp only at hv
        have hs0 := getLp_spec hg0
        cases hn : s.new (.loop ⟨.ready, none, t, n, params.toList, assign, body, r0.defers⟩) with
        | none => rw [hn] at hv; cases hv
        | some q =>
          obtain ⟨l, s1⟩ := q
          rw [hn] at hv
          obtain ⟨m1, f1⟩ := range1_sound (f := f) (params := params) (assign := assign) (body := body) hK he hv
          have hn1 := new_two hn
          refine ⟨by omega, fun φ ac w rb h hw ha hfree hr => ?_⟩
          cases rb with
          | none => exact hr.elim
          | some b0 =>
          obtain ⟨N0, hl0⟩ := hr
          obtain ⟨c0, hc0, hlr⟩ := h.loop hl0 hs0
          obtain ⟨Nd, hd⟩ := hlr.defers
          refine wpIn_rangeFunc fun fn _ => ?_
          have hfr : φ s.next = none := hfree _ (Nat.le_refl _) (by omega)
          have hOR : OR φ 0 (.loop ⟨.ready, none, t, n, params.toList, assign, body, r0.defers⟩) (.loop { state := .ready, pending := none, fn, tmps := ac.tmps, params, assign, body, defers := c0.defers }) :=
            .loop ⟨rfl, rfl, ha.tmps, rfl, rfl, rfl, ⟨Nd, hd⟩⟩
          have hf := alloc_fine h hw hn hfr hOR
          have hsub := hf.goes.sub (hfree.left m1)
          have hent : (Instr.enterLoop fn ac.tmps params assign body (some b0)).run P w = .ok (w.heap.size, []) (w.alloc (.loop { state := .ready, pending := none, fn, tmps := ac.tmps, params, assign, body, defers := c0.defers })) := by
            unfold Instr.enterLoop
            simp only [Sem.run_bind, run_getLoop hc0, Result.andThen_ok, Sem.run_pure, run_newObj]
            rfl
          obtain ⟨d, args, g1, g2, g3⟩ := f1 _ ac ac _ (some b0) w.heap.size 0 hf.rel hf.wf (ha.mono hsub) (hf.goes.free hfree) ⟨N0, hsub _ _ hl0⟩ (by rw [show l = s.next from (new_spec hn).1]; exact Map.upd_same _ _ _) ((evF_VR ha f hfv).mono hsub)
          refine ⟨w.heap.size, [], _, d, _, g, args, _, hent, g1, fun _ _ => trivial, g2, fun h => fen_depth _ h, ?_⟩
          have hac : ({ ac with defers := ([] : List Deferred) ++ ac.defers } : Act) = ac := rfl
          rw [hac]
          refine g3.mono fun en w2 hp => ?_
          cases en with
          | returned v =>
            obtain ⟨jump, w4, j1, j2⟩ := hp
            refine ⟨jump, w4, j1, ?_⟩
            cases jump with
            | none => exact Post.trans hf _ _ _ j2
            | some c => exact wpIn_mono j2 (Post.trans hf)
          | panicked ch => exact Post.trans hf _ _ _ hp
          | outgrown => obtain ⟨a0, w0, hq⟩ := hp; exact ⟨a0, w0, Post.trans hf _ _ _ hq⟩
    | none =>
      simp only at hv
      cases hm : s.new (.marks true) with
      | none => rw [hm] at hv; cases hv
      | some q =>
        obtain ⟨mk, s0⟩ := q
        rw [hm] at hv; simp only at hv
        cases hn : s0.new (.loop ⟨.ready, none, t, n, params.toList, assign, body, mk⟩) with
        | none => rw [hn] at hv; cases hv
        | some q =>
          obtain ⟨l, s1⟩ := q
          rw [hn] at hv
          obtain ⟨m1, f1⟩ := range1_sound (f := f) (params := params) (assign := assign) (body := body) hK he hv
          have hn0 := new_two hm
          have hn1 := new_two hn
          refine ⟨by omega, fun φ ac w rb h hw ha hfree hr => ?_⟩
          cases rb with
          | some b0 => exact hr.elim
          | none =>
          refine wpIn_rangeFunc fun fn _ => ?_
          have hfr : φ s.next = none := hfree _ (Nat.le_refl _) (by omega)
          have hf0 := alloc_fine (N := 0) (c := .deferred (some [])) h hw hm hfr (.marks true)
          have hfree0 : Free (φ.upd mk (w.heap.size, 0)) s0 s' := hf0.goes.free hfree
          have hfr1 : (φ.upd mk (w.heap.size, 0)) s0.next = none := hfree0 _ (Nat.le_refl _) (by omega)
          have hsub0 := hf0.goes.sub (hfree.left (by omega : s0.next ≤ s'.next))
          have hmk : (φ.upd mk (w.heap.size, 0)) mk = some (w.heap.size, 0) := Map.upd_same _ _ _
          have hOR : OR (φ.upd mk (w.heap.size, 0)) 0 (.loop ⟨.ready, none, t, n, params.toList, assign, body, mk⟩) (.loop { state := .ready, pending := none, fn, tmps := ac.tmps, params, assign, body, defers := w.heap.size }) :=
            .loop ⟨rfl, rfl, ha.tmps.mono hsub0, rfl, rfl, rfl, ⟨0, hmk⟩⟩
          have hf1 := alloc_fine hf0.rel hf0.wf hn hfr1 hOR
          have hsub1 := hf1.goes.sub (hfree0.left m1)
          have hsz : (w.alloc (.deferred (some []))).heap.size = w.heap.size + 1 := World.size_alloc ..
          have hent := run_enterLoop_outer (P := P) (w := w) fn ac.tmps params assign body
          have hl : l = s0.next := (new_spec hn).1
          have hf := hf0.trans hf1
          have hARa : AR ((φ.upd mk (w.heap.size, 0)).upd l ((w.alloc (.deferred (some []))).heap.size, 0)) ⟨t, n, D.mark mk :: ds⟩ { ac with defers := { target := .collected w.heap.size, args := #[] } :: ac.defers } :=
            ⟨(ha.tmps.mono hsub0).mono hsub1, .mark (hsub1 _ _ hmk) ((ha.defers.mono hsub0).mono hsub1)⟩
          obtain ⟨d, args, g1, g2, g3⟩ := f1 _ ac _ _ none (w.heap.size + 1) 0 hf1.rel hf1.wf hARa (hf1.goes.free hfree0) trivial (by rw [← hsz]; exact Map.upd_same _ _ _) (((evF_VR ha f hfv).mono hsub0).mono hsub1)
          refine ⟨w.heap.size + 1, [{ target := .collected w.heap.size, args := #[] }], _, d, _, g, args, _, hent, g1, fun _ _ => trivial, g2, fun h => fen_depth _ h, ?_⟩
          refine g3.mono fun en w2 hp => ?_
          cases en with
          | returned v =>
            obtain ⟨jump, w4, j1, j2⟩ := hp
            refine ⟨jump, w4, j1, ?_⟩
            cases jump with
            | none => exact Post.trans hf _ _ _ j2
            | some c => exact wpIn_mono j2 (Post.trans hf)
          | panicked ch => exact Post.trans hf _ _ _ hp
          | outgrown => obtain ⟨a0, w0, hq⟩ := hp; exact ⟨a0, w0, Post.trans hf _ _ _ hq⟩

/-! ### statements -/

theorem thenC_spec {k : A → St → Out} {r : Out} {x : X} {a' : A} (h : thenC k r = some (x, a', s')) : (∃ a1 s1, r = some (.normal, a1, s1) ∧ k a1 s1 = some (x, a', s')) ∨ (r = some (x, a', s') ∧ x ≠ .normal) := by
  unfold thenC at h
  split at h
  · rename_i y a1 s1
    cases y with
    | normal => exact .inl ⟨a1, s1, rfl, h⟩
    | exit id => exact .inr ⟨h, by injection h with h; injection h with h _; subst h; simp⟩
    | goto l => exact .inr ⟨h, by injection h with h; injection h with h _; subst h; simp⟩
    | ret => exact .inr ⟨h, by injection h with h; injection h with h _; subst h; simp⟩
  · cases h

/-- a statement, then on -/
theorem then_post {x : X} {a' : A} (hx : x ≠ .normal) {k : Act → World → Prop} : ∀ en ac w', Post φ s w x a' s' en ac w' → Exit.then k (Post φ s w x a' s') en ac w' := by
  intro en ac w' hp
  obtain ⟨e1, e2⟩ := hp
  subst e1
  cases x with
  | normal => exact absurd rfl hx
  | exit id => exact ⟨rfl, e2⟩
  | goto l => exact ⟨rfl, e2⟩
  | ret => exact ⟨rfl, e2⟩

theorem code_sound (hK : KOK P K) (he : EvOK P e) (hL : LoopOK P e) (hD : DrawOK P K e) {r : Option Nat} (c : Code) {x : X} {a a' : A} (hv : codeF c ⟨P, K, e, r⟩ a s = some (x, a', s')) : s.next ≤ s'.next ∧
    ∀ (φ : Map) (ac : Act) (w : World) (rb : Option Nat), HR φ s w → Wf s → AR φ a ac → Free φ s s' → rndR φ r rb → c.wpIn (fen rb) 0 P (Post φ s w x a' s') ac w := by
  have ends : ∀ {y : X}, cEnd y ⟨P, K, e, r⟩ a s = some (x, a', s') → y = x ∧ a' = a ∧ s' = s := by
    intro y h
    unfold cEnd at h
    injection h with h; injection h with h1 h; injection h with h2 h3
    exact ⟨h1, h2.symm, h3.symm⟩
  cases c with
  | skip => obtain ⟨rfl, rfl, rfl⟩ := ends hv; exact ⟨Nat.le_refl _, fun φ ac w rb h hw ha _ _ => wpIn_skip (Post.here h hw ha)⟩
  | label l => obtain ⟨rfl, rfl, rfl⟩ := ends hv; exact ⟨Nat.le_refl _, fun φ ac w rb h hw ha _ _ => wpIn_label (Post.here h hw ha)⟩
  | exit id => obtain ⟨rfl, rfl, rfl⟩ := ends hv; exact ⟨Nat.le_refl _, fun φ ac w rb h hw ha _ _ => wpIn_exit (Post.here (x := .exit id) h hw ha)⟩
  | goto l => obtain ⟨rfl, rfl, rfl⟩ := ends hv; exact ⟨Nat.le_refl _, fun φ ac w rb h hw ha _ _ => wpIn_goto (Post.here (x := .goto l) h hw ha)⟩
  | ret => obtain ⟨rfl, rfl, rfl⟩ := ends hv; exact ⟨Nat.le_refl _, fun φ ac w rb h hw ha _ _ => wpIn_ret (Post.here (x := .ret) h hw ha)⟩
  | refuse why => cases hv
  | region id ops draw =>
    have outs : ∀ {r : Two}, outN r = some (x, a', s') → x = .normal ∧ r = some (a', s') := by
      intro r h
      unfold outN at h
      split at h
      · injection h with h; injection h with h1 h; injection h with h2 h3; subst h1; subst h2; subst h3; exact ⟨rfl, rfl⟩
      · cases h
    cases draw with
    | false =>
      have hv : outN (opsL P ⟨P, K, e, r⟩ ops.toList ops.toList a s) = some (x, a', s') := hv
      obtain ⟨rfl, h1⟩ := outs hv
      obtain ⟨m, f⟩ := regL_sound hK he ops.toList 0 a a' s s' rfl h1
      refine ⟨m, fun φ ac w rb h hw ha hfree hr => wpIn_region ?_⟩
      have := f φ ac w rb h hw ha hfree hr (Post φ s w .normal a' s') fun φ' ac' w' ha' hf' => ⟨rfl, φ', ha', hf'⟩
      rw [List.range_eq_range']
      simpa using this
    | true =>
      have hv : (match drawOk P ops with
        | some ws => outN (opsD P ⟨P, K, e, r⟩ ops.toList ops.toList ws 0 a s [] [])
        | none => none) = some (x, a', s') := hv
      cases hd : drawOk P ops with
      | none => rw [hd] at hv; cases hv
      | some ws =>
        rw [hd] at hv; simp only at hv
        obtain ⟨rfl, h1⟩ := outs hv
        obtain ⟨m, f⟩ := hD hd h1
        refine ⟨m, fun φ ac w rb h hw ha hfree hr => wpIn_region_draw fun t => ?_⟩
        have hf := drew_fine h hw
        exact f φ ac _ rb hf.rel hw ha hfree hr _ (fun φ' ac' w' ha' hf' => ⟨rfl, φ', ha', hf.trans hf'⟩) t
  | seq y z =>
    have hv : thenC (run1 ⟨P, K, e, r⟩ z) (run1 ⟨P, K, e, r⟩ y a s) = some (x, a', s') := hv
    rcases thenC_spec hv with ⟨a1, s1, h1, h2⟩ | ⟨h1, hx⟩
    · obtain ⟨m1, f1⟩ := he.code _ _ _ _ _ _ _ h1
      obtain ⟨m2, f2⟩ := he.code _ _ _ _ _ _ _ h2
      refine ⟨Nat.le_trans m1 m2, fun φ ac w rb h hw ha hfree hr => wpIn_seq (wpIn_mono (f1 φ ac w rb h hw ha (hfree.left m2) hr) fun en ac1 w1 hp => ?_)⟩
      obtain ⟨rfl, φ1, ha1, hf1⟩ := hp
      exact wpIn_mono (f2 φ1 ac1 w1 rb hf1.rel hf1.wf ha1 (hf1.goes.free hfree) (hr.mono (hf1.goes.sub (hfree.left m2)))) (Post.trans hf1)
    · obtain ⟨m1, f1⟩ := he.code _ _ _ _ _ _ _ h1
      exact ⟨m1, fun φ ac w rb h hw ha hfree hr => wpIn_seq (wpIn_mono (f1 φ ac w rb h hw ha hfree hr) (then_post hx))⟩
  | cond c y z =>
    have hv : (match evF c a with
      | some (.bool b) => (Bool.casesOn b (run1 ⟨P, K, e, r⟩ z a s) (run1 ⟨P, K, e, r⟩ y a s) : Out)
      | _ => none) = some (x, a', s') := hv
    split at hv
    · rename_i b hc
      cases b with
      | false =>
        obtain ⟨m, f⟩ := he.code _ _ _ _ _ _ _ hv
        refine ⟨m, fun φ ac w rb h hw ha hfree hr => ?_⟩
        have hcv := evF_VR ha c hc
        refine wpIn_cond (t := false) ?_ (f φ ac w rb h hw ha hfree hr)
        generalize ac.eval c = cv at hcv
        cases hcv; rfl
      | true =>
        obtain ⟨m, f⟩ := he.code _ _ _ _ _ _ _ hv
        refine ⟨m, fun φ ac w rb h hw ha hfree hr => ?_⟩
        have hcv := evF_VR ha c hc
        refine wpIn_cond (t := true) ?_ (f φ ac w rb h hw ha hfree hr)
        generalize ac.eval c = cv at hcv
        cases hcv; rfl
    · cases hv
  | block id c =>
    have hv : outB id (run1 ⟨P, K, e, r⟩ c a s) = some (x, a', s') := hv
    unfold outB at hv
    cases hr1 : run1 ⟨P, K, e, r⟩ c a s with
    | none => rw [hr1] at hv; cases hv
    | some q =>
      obtain ⟨y, a1, s1⟩ := q
      rw [hr1] at hv
      obtain ⟨m, f⟩ := he.code _ _ _ _ _ _ _ hr1
      cases y with
      | normal =>
        simp only at hv
        injection hv with hv; injection hv with e1 hv; injection hv with e2 e3; subst e1; subst e2; subst e3
        exact ⟨m, fun φ ac w rb h hw ha hfree hr => wpIn_block (wpIn_mono (f φ ac w rb h hw ha hfree hr) fun en ac1 w1 hp => by obtain ⟨rfl, q⟩ := hp; exact ⟨rfl, q⟩)⟩
      | goto l =>
        simp only at hv
        injection hv with hv; injection hv with e1 hv; injection hv with e2 e3; subst e1; subst e2; subst e3
        exact ⟨m, fun φ ac w rb h hw ha hfree hr => wpIn_block (wpIn_mono (f φ ac w rb h hw ha hfree hr) fun en ac1 w1 hp => by obtain ⟨rfl, q⟩ := hp; exact ⟨rfl, q⟩)⟩
      | ret =>
        simp only at hv
        injection hv with hv; injection hv with e1 hv; injection hv with e2 e3; subst e1; subst e2; subst e3
        exact ⟨m, fun φ ac w rb h hw ha hfree hr => wpIn_block (wpIn_mono (f φ ac w rb h hw ha hfree hr) fun en ac1 w1 hp => by obtain ⟨rfl, q⟩ := hp; exact ⟨rfl, q⟩)⟩
      | exit id' =>
        simp only at hv
        cases hb : Nat.beq id' id with
        | true =>
          rw [hb] at hv
          have hid := Nat.eq_of_beq_eq_true hb
          simp only at hv
          injection hv with hv; injection hv with e1 hv; injection hv with e2 e3; subst e1; subst e2; subst e3
          exact ⟨m, fun φ ac w rb h hw ha hfree hr => wpIn_block (wpIn_mono (f φ ac w rb h hw ha hfree hr) fun en ac1 w1 hp => by
            obtain ⟨rfl, q⟩ := hp
            show Exit.inBlock id _ (.exit id') ac1 w1
            simp only [Exit.inBlock, hid, if_true]
            exact ⟨rfl, q⟩)⟩
        | false =>
          rw [hb] at hv
          have hid : ¬ id' = id := fun ee => by subst ee; rw [Nat.beq_refl] at hb; cases hb
          simp only at hv
          injection hv with hv; injection hv with e1 hv; injection hv with e2 e3; subst e1; subst e2; subst e3
          exact ⟨m, fun φ ac w rb h hw ha hfree hr => wpIn_block (wpIn_mono (f φ ac w rb h hw ha hfree hr) fun en ac1 w1 hp => by
            obtain ⟨rfl, q⟩ := hp
            show Exit.inBlock id _ (.exit id') ac1 w1
            simp only [Exit.inBlock, hid, if_false]
            exact ⟨rfl, q⟩)⟩
  | loop c =>
    have hv : thenC (run1 ⟨P, K, e, r⟩ (.loop c)) (run1 ⟨P, K, e, r⟩ c a s) = some (x, a', s') := hv
    rcases thenC_spec hv with ⟨a1, s1, h1, h2⟩ | ⟨h1, hx⟩
    · obtain ⟨m1, f1⟩ := he.code _ _ _ _ _ _ _ h1
      obtain ⟨m2, _⟩ := he.code _ _ _ _ _ _ _ h2
      refine ⟨Nat.le_trans m1 m2, fun φ ac w rb h hw ha hfree hr => wpIn_of_loopIn (loopIn_of_wpIn (wpIn_mono (f1 φ ac w rb h hw ha (hfree.left m2) hr) fun en ac1 w1 hp => ?_))⟩
      obtain ⟨rfl, φ1, ha1, hf1⟩ := hp
      exact (hL _ _ _ _ _ _ _ h2 φ1 ac1 w1 rb hf1.rel hf1.wf ha1 (hf1.goes.free hfree) (hr.mono (hf1.goes.sub (hfree.left m2)))).mono (Post.trans hf1)
    · obtain ⟨m1, f1⟩ := he.code _ _ _ _ _ _ _ h1
      exact ⟨m1, fun φ ac w rb h hw ha hfree hr => wpIn_of_loopIn (loopIn_of_wpIn (wpIn_mono (f1 φ ac w rb h hw ha hfree hr) (then_post hx)))⟩
  | scope c =>
    have hv : outS (run1 ⟨P, K, e, r⟩ c a s) = some (x, a', s') := hv
    unfold outS at hv
    cases hr1 : run1 ⟨P, K, e, r⟩ c a s with
    | none => rw [hr1] at hv; cases hv
    | some q =>
      obtain ⟨y, a1, s1⟩ := q
      rw [hr1] at hv
      obtain ⟨m, f⟩ := he.code _ _ _ _ _ _ _ hr1
      cases y with
      | goto l => cases hv
      | normal =>
        simp only at hv
        injection hv with hv; injection hv with e1 hv; injection hv with e2 e3; subst e1; subst e2; subst e3
        exact ⟨m, fun φ ac w rb h hw ha hfree hr => wpIn_scope (wpIn_mono (f φ ac w rb h hw ha hfree hr) fun en ac1 w1 hp => by obtain ⟨rfl, q⟩ := hp; exact ⟨rfl, q⟩)⟩
      | ret =>
        simp only at hv
        injection hv with hv; injection hv with e1 hv; injection hv with e2 e3; subst e1; subst e2; subst e3
        exact ⟨m, fun φ ac w rb h hw ha hfree hr => wpIn_scope (wpIn_mono (f φ ac w rb h hw ha hfree hr) fun en ac1 w1 hp => by obtain ⟨rfl, q⟩ := hp; exact ⟨rfl, q⟩)⟩
      | exit id =>
        simp only at hv
        injection hv with hv; injection hv with e1 hv; injection hv with e2 e3; subst e1; subst e2; subst e3
        exact ⟨m, fun φ ac w rb h hw ha hfree hr => wpIn_scope (wpIn_mono (f φ ac w rb h hw ha hfree hr) fun en ac1 w1 hp => by obtain ⟨rfl, q⟩ := hp; exact ⟨rfl, q⟩)⟩
  | rangeFunc f params assign body => exact range_sound hK he hv

end Go.AM

namespace Go.AM

variable {P : Program} {K : Known} {e : Ev} {φ : Map} {w : World} {s s' : St}

/-! ### functions -/

theorem entered_AR {fn : Func} {args : List V} {args' : List Value} {a : A} (h : entered fn args = some a) (hv : VRs φ args args') :
    AR φ a { tmps := (⟨args'⟩ : Array Value) ++ Array.replicate (fn.ntmps - (⟨args'⟩ : Array Value).size) Go.undef, defers := [] } := by
  unfold entered at h
  cases ht : Tr.ofL args with
  | none => rw [ht] at h; cases h
  | some t =>
    rw [ht] at h; injection h with h; subst h
    have hp := putN_spec args .e t 0 ht
    have hlen := hv.length
    refine ⟨⟨?_, fun i v hi => ?_, fun i hi => ?_⟩, .nil⟩
    · simp [hlen]; omega
    · rw [hp i] at hi
      split at hi
      · rename_i hr
        rw [Nat.sub_zero] at hi
        obtain ⟨v', e1, e2⟩ := hv.get hi
        have : ((⟨args'⟩ : Array Value) ++ Array.replicate (fn.ntmps - (⟨args'⟩ : Array Value).size) Go.undef).getD i Go.undef = v' := by
          rw [Array.getD_eq_getD_getElem?, Array.getElem?_append_left (by simp; omega)]
          simp [e1]
        rw [this]; exact e2
      · rw [get_e] at hi; cases hi
    · rw [hp i] at hi
      split at hi
      · rename_i hr
        rw [Nat.sub_zero] at hi
        rw [List.getElem?_eq_none_iff] at hi
        omega
      · rename_i hr
        rw [Array.getD_eq_getD_getElem?, Array.getElem?_append_right (by simp; omega)]
        simp only [Array.getElem?_replicate]
        split <;> rfl

/-- one result -/
def resOf (tmps : Array Value) : ResultVar → Sem Value
  | .tmp t => pure (tmps.getD t Go.undef)
  | .cell a t => do loadVar t (← asAddr (tmps.getD a Go.undef))

theorem results_eq (fn : Func) (tmps : Array Value) : results fn tmps = (do
  let vs ← fn.results.mapM (resOf tmps)
  pure (if h : vs.size = 1 then vs[0] else .tuple vs)) := by
  unfold results
  congr 1

theorem results_sound (h : HR φ s w) {t : Tr V} {n : Nat} {ds : List D} {tmps : Array Value} (ht : TmR φ t n tmps) : ∀ (rs : List ResultVar) (l : List V), resultsL P ⟨t, n, ds⟩ s rs = some l →
    ∃ l' : List Value, (rs.mapM (resOf tmps)).run P w = .ok l' w ∧ VRs φ l l' := by
  have htm : ∀ i, VR φ (A.tm ⟨t, n, ds⟩ i) (tmps.getD i Go.undef) := fun i => by
    simp only [A.tm]
    cases hg : t.get i with
    | some v => exact ht.got i v hg
    | none => rw [ht.none i hg]; exact VR.undef φ
  intro rs
  induction rs with
  | nil => intro l hl; simp only [resultsL] at hl; injection hl with hl; subst hl; exact ⟨[], rfl, .nil⟩
  | cons r rs ih =>
    intro l hl
    cases r with
    | tmp i =>
      simp only [resultsL] at hl
      cases hr : resultsL P ⟨t, n, ds⟩ s rs with
      | none => rw [hr] at hl; cases hl
      | some l1 =>
        rw [hr] at hl; injection hl with hl; subst hl
        obtain ⟨l', h1, h2⟩ := ih l1 hr
        refine ⟨tmps.getD i Go.undef :: l', ?_, .cons (htm i) h2⟩
        rw [List.mapM_cons]
        simp only [resOf, Sem.run_bind, Sem.run_pure, Result.andThen_ok, h1]
    | cell i ty =>
      simp only [resultsL] at hl
      have hti := htm i
      generalize hgc : tmps.getD i Go.undef = tc at hti
      generalize A.tm ⟨t, n, ds⟩ i = tv at hl hti
      cases tv <;> first | (cases hl; done) | skip
      rename_i id off
      simp only at hl
      cases hs : s.get id with
      | none => rw [hs] at hl; cases hl
      | some ob =>
        rw [hs] at hl
        cases ob <;> first | (cases hl; done) | skip
        rename_i tr m
        simp only at hl
        cases hlv : loadV P ty tr off with
        | none => rw [hlv] at hl; cases hl
        | some v =>
          rw [hlv] at hl; simp only at hl
          cases hr : resultsL P ⟨t, n, ds⟩ s rs with
          | none => rw [hr] at hl; cases hl
          | some l1 =>
            rw [hr] at hl; injection hl with hl; subst hl
            obtain ⟨l', h1, h2⟩ := ih l1 hr
            cases hti with
            | @ptr _ b N _ hφ =>
            obtain ⟨v', g1, g2⟩ := run_loadV (P := P) h hφ hs hlv
            refine ⟨v' :: l', ?_, .cons g2 h2⟩
            have hone : (resOf tmps (.cell i ty)).run P w = .ok v' w := by
              simp only [resOf, hgc, asAddr, Sem.run_bind, Sem.run_pure, Result.andThen_ok, g1]
            rw [List.mapM_cons]
            simp only [Sem.run_bind, hone, Sem.run_pure, Result.andThen_ok, h1]

theorem run_results (h : HR φ s w) {t : Tr V} {n : Nat} {ds : List D} {tmps : Array Value} {fn : Func} {l : List V} (ht : TmR φ t n tmps) (hr : resultsL P ⟨t, n, ds⟩ s fn.results.toList = some l) :
    ∃ v', (results fn tmps).run P w = .ok v' w ∧ VR φ (oneOf l) v' := by
  obtain ⟨l', h1, h2⟩ := results_sound (P := P) h ht fn.results.toList l hr
  refine ⟨if h : l'.toArray.size = 1 then l'.toArray[0] else .tuple l'.toArray, ?_, ?_⟩
  · rw [results_eq, Sem.run_bind, Array.mapM_eq_mapM_toList, Sem.run_map, h1]
    rfl
  · cases h2 with
    | nil => exact .tup .nil
    | @cons v v' l l' hv ht =>
      cases ht with
      | nil => exact hv
      | @cons v2 v2' l2 l2' hv2 ht2 =>
        simp only [oneOf]
        rw [dif_neg (by simp)]
        exact .tup (.cons hv (.cons hv2 ht2))

/-- a deferred call's function, which defers nothing itself -/
theorem plain_sound (hng : ∀ (f : FuncId) (fn : Func), P.funcs[f]? = some fn → (fn.name == "runtime.NumGoroutine") = false) (he : EvOK P e) {f : FuncId} {args : List V} (hv : plainCall ⟨P, K, e, none⟩ f args s = some s') : s.next ≤ s'.next ∧
    ∀ (φ : Map) (w : World) (args' : List Value), HR φ s w → Wf s → VRs φ args args' → Free φ s s' → Go' P f ∧ ∀ u, CallsDIn (fen none) 0 P f ⟨args'⟩ u w fun en u' w' => u' = u ∧ ∃ v' φ', en = .returned v' ∧ Fine φ s w φ' s' w' := by
  unfold plainCall at hv
  cases hf : P.funcs[f]? with
  | none => simp only [hf] at hv; cases hv
  | some fn =>
    simp only [hf] at hv
    cases hb : fn.body with
    | none => rw [hb] at hv; cases hv
    | some c =>
      rw [hb] at hv; simp only at hv
      cases hen : entered fn args with
      | none => rw [hen] at hv; cases hv
      | some a =>
        rw [hen] at hv; simp only at hv
        cases hc : e.code none c a s with
        | none => rw [hc] at hv; cases hv
        | some q =>
          obtain ⟨x, a1, s1⟩ := q
          rw [hc] at hv; simp only at hv
          obtain ⟨m, fs⟩ := he.code _ _ _ _ _ _ _ hc
          have hv2 : (x = .normal ∨ x = .ret) ∧ plainCall.plainEnd ⟨P, K, e, none⟩ fn a1 s1 = some s' := by
            cases x <;> first | (cases hv; done) | skip
            · exact ⟨.inl rfl, hv⟩
            · exact ⟨.inr rfl, hv⟩
          obtain ⟨hx, hv⟩ := hv2
          obtain ⟨t, n, ds⟩ := a1
          unfold plainCall.plainEnd at hv
          simp only at hv
          cases ds with
          | cons d ds => cases hv
          | nil =>
            simp only at hv
            cases hr : resultsL P ⟨t, n, []⟩ s1 fn.results.toList with
            | none => rw [hr] at hv; cases hv
            | some l =>
              rw [hr] at hv; simp only at hv
              injection hv with hv; subst hv
              refine ⟨m, fun φ w args' h hw ha hfree => ⟨⟨fn, c, hf, hng f fn hf, hb⟩, fun u => ?_⟩⟩
              have hwp := fs φ _ w none h hw (entered_AR hen ha) hfree trivial
              refine callsDIn_of_wp hf hb trivial (R := fun en w' => ∃ v' φ', en = .returned v' ∧ Fine φ s w φ' s1 w') (wpIn_mono hwp fun en ac' w' hp => ?_) (by rfl)
              obtain ⟨rfl, φ', ha', hf'⟩ := hp
              have hd : ac'.defers = [] := by
                have := ha'.defers
                generalize ac'.defers = dd at this
                cases this; rfl
              obtain ⟨v', r1, r2⟩ := run_results (P := P) hf'.rel ha'.tmps hr
              rcases hx with rfl | rfl
              · exact ⟨hd, v', r1, v', φ', rfl, hf'⟩
              · exact ⟨hd, v', r1, v', φ', rfl, hf'⟩

/-- the deferred calls -/
theorem leave_sound (hng : ∀ (f : FuncId) (fn : Func), P.funcs[f]? = some fn → (fn.name == "runtime.NumGoroutine") = false) (hK : KOK P K) (he : EvOK P e) : ∀ (ds : List D) (s s' : St), leaveL ⟨P, K, e, none⟩ ds s = some s' → s.next ≤ s'.next ∧
    ∀ (φ : Map) (w : World) (dsc : List Deferred), HR φ s w → Wf s → DR φ ds dsc → Free φ s s' → ∀ (fn : Func) (tmps : Array Value) (R : Ending → World → Prop),
      (∀ φ' w', Fine φ s w φ' s' w' → ∃ v, (results fn tmps).run P w' = .ok v w' ∧ R (.returned v) w') → LeavesInM (fen none) 0 P fn tmps R dsc .returning w := by
  intro ds
  induction ds with
  | nil =>
    intro s s' hv
    simp only [leaveL] at hv
    injection hv with hv; subst hv
    refine ⟨Nat.le_refl _, fun φ w dsc h hw hd hfree fn tmps R hR => ?_⟩
    cases hd
    exact hR φ w (Fine.refl h hw)
  | cons d ds ih =>
    intro s s' hv
    cases d with
    | mark r =>
      simp only [leaveL] at hv
      cases hs : s.get r with
      | none => rw [hs] at hv; cases hv
      | some ob =>
        rw [hs] at hv
        cases ob <;> first | (cases hv; done) | skip
        rename_i b
        cases b with
        | false => cases hv
        | true =>
          simp only at hv
          cases hp : s.put r (some (.marks false)) with
          | none => rw [hp] at hv; cases hv
          | some s1 =>
            rw [hp] at hv; simp only at hv
            obtain ⟨m, f⟩ := ih s1 s' hv
            rw [put_next hp] at m
            refine ⟨m, fun φ w dsc h hw hd hfree fn tmps R hR => ?_⟩
            cases hd with
            | @mark _ b N _ dsc hφ ht =>
            obtain ⟨c, h1, h2⟩ := h.obj r b N _ hφ hs
            cases h2
            have h1 : w.heap[b]? = some (.deferred (some [])) := h1
            have hfine : Fine φ s w φ s1 (w.putObj b (.deferred none)) := putObj_fine h hw hφ hs h1 hp (.marks false)
            refine ⟨by simp, .inl ⟨b, _, rfl, run_takeDeferred h1, ?_⟩⟩
            exact f φ _ dsc hfine.rel hfine.wf ht (hfine.goes.free hfree) fn tmps R fun φ' w' hf' => hR φ' w' (hfine.trans hf')
    | call f args =>
      have conc : ∀ (φ : Map) (dsc : List Deferred), DR φ (.call f args :: ds) dsc → ∃ cap args1 dsc', dsc = { target := .fn (.func f) cap, args := args1 } :: dsc' ∧ VRs φ args (args1.toList ++ cap.toList) ∧ DR φ ds dsc' := by
        intro φ dsc hd
        cases hd with
        | call h t => exact ⟨_, _, _, rfl, h, t⟩
      have inv : ∀ (w : World) (cap args1 : Array Value), Go' P f → (invoke (.fn (.func f) cap) args1).run P w = .ok (.enter f ⟨args1.toList ++ cap.toList⟩) w := by
        intro w cap args1 hgo
        simp only [invoke]
        have : args1 ++ cap = ⟨args1.toList ++ cap.toList⟩ := by apply Array.ext'; simp
        rw [this]; exact callFunc_enter hgo
      simp only [leaveL] at hv
      cases hKf : K f with
      | some kf =>
        obtain ⟨b, g⟩ := kf
        rw [hKf] at hv
        cases b with
        | false => cases hv
        | true =>
          simp only at hv
          cases hg : g args s with
          | none => rw [hg] at hv; cases hv
          | some q =>
            obtain ⟨v, s1⟩ := q
            rw [hg] at hv; simp only at hv
            obtain ⟨m1, fk⟩ := hK f true g hKf args s v s1 hg
            obtain ⟨m2, f2⟩ := ih s1 s' hv
            refine ⟨Nat.le_trans m1 m2, fun φ w dsc h hw hd hfree fn tmps R hR => ?_⟩
            obtain ⟨cap, args1, dsc', rfl, hva, ht⟩ := conc φ dsc hd
            rcases fk φ w _ h hw hva (hfree.left m2) with ⟨hb, _⟩ | ⟨hgo, _, hdd⟩
            · cases hb
            · refine ⟨by simp, .inr ⟨fun h => fen_depth _ h, _, cap, f, _, rfl, inv w cap args1 hgo, fun _ _ => trivial, ?_⟩⟩
              refine (hdd rfl .returning).mono fun en u' w' hp => ?_
              obtain ⟨rfl, φ1, v', rfl, _, hf1⟩ := hp
              exact f2 φ1 w' dsc' hf1.rel hf1.wf (ht.mono (hf1.goes.sub (hfree.left m2))) (hf1.goes.free hfree) fn tmps R fun φ' w'' hf' => hR φ' w'' (hf1.trans hf')
      | none =>
        rw [hKf] at hv; simp only at hv
        cases hpc : plainCall ⟨P, K, e, none⟩ f args s with
        | none => rw [hpc] at hv; cases hv
        | some s1 =>
          rw [hpc] at hv; simp only at hv
          obtain ⟨m1, fk⟩ := plain_sound hng he hpc
          obtain ⟨m2, f2⟩ := ih s1 s' hv
          refine ⟨Nat.le_trans m1 m2, fun φ w dsc h hw hd hfree fn tmps R hR => ?_⟩
          obtain ⟨cap, args1, dsc', rfl, hva, ht⟩ := conc φ dsc hd
          obtain ⟨hgo, hdd⟩ := fk φ w _ h hw hva (hfree.left m2)
          refine ⟨by simp, .inr ⟨fun h => fen_depth _ h, _, cap, f, _, rfl, inv w cap args1 hgo, fun _ _ => trivial, ?_⟩⟩
          refine (hdd .returning).mono fun en u' w' hp => ?_
          obtain ⟨rfl, v', φ1, rfl, hf1⟩ := hp
          exact f2 φ1 w' dsc' hf1.rel hf1.wf (ht.mono (hf1.goes.sub (hfree.left m2))) (hf1.goes.free hfree) fn tmps R fun φ' w'' hf' => hR φ' w'' (hf1.trans hf')

theorem call_sound (hng : ∀ (f : FuncId) (fn : Func), P.funcs[f]? = some fn → (fn.name == "runtime.NumGoroutine") = false) (hK : KOK P K) (he : EvOK P e) {f : FuncId} {args : List V} {v : V} (hv : callF ⟨P, K, e, none⟩ f args s = some (v, s')) : s.next ≤ s'.next ∧
    ∀ (φ : Map) (w : World) (args' : List Value), HR φ s w → Wf s → VRs φ args args' → Free φ s s' → Go' P f ∧ CallsIn (fen none) 0 P f ⟨args'⟩ w (Ret φ s w v s') := by
  unfold callF at hv
  cases hf : P.funcs[f]? with
  | none => simp only [hf] at hv; cases hv
  | some fn =>
    simp only [hf] at hv
    cases hb : fn.body with
    | none => rw [hb] at hv; cases hv
    | some c =>
      rw [hb] at hv; simp only [callBody] at hv
      cases hen : entered fn args with
      | none => rw [hen] at hv; cases hv
      | some a =>
        rw [hen] at hv; simp only [callEnd] at hv
        cases hc : e.code none c a s with
        | none => rw [hc] at hv; cases hv
        | some q =>
          obtain ⟨x, a1, s1⟩ := q
          rw [hc] at hv; simp only at hv
          obtain ⟨m, fs⟩ := he.code _ _ _ _ _ _ _ hc
          have hv2 : (x = .normal ∨ x = .ret) ∧ leave ⟨P, K, e, none⟩ fn a1 s1 = some (v, s') := by
            cases x <;> first | (cases hv; done) | skip
            · exact ⟨.inl rfl, hv⟩
            · exact ⟨.inr rfl, hv⟩
          obtain ⟨hx, hv⟩ := hv2
          obtain ⟨t, n, ds⟩ := a1
          simp only [leave] at hv
          cases hl : leaveL ⟨P, K, e, none⟩ ds s1 with
          | none => rw [hl] at hv; cases hv
          | some s2 =>
            rw [hl] at hv; simp only at hv
            cases hr : resultsL P ⟨t, n, []⟩ s2 fn.results.toList with
            | none => rw [hr] at hv; cases hv
            | some l =>
              rw [hr] at hv; simp only at hv
              injection hv with hv; injection hv with e1 e2; subst e1; subst e2
              obtain ⟨m2, f2⟩ := leave_sound hng hK he ds s1 s2 hl
              refine ⟨Nat.le_trans m m2, fun φ w args' h hw ha hfree => ⟨⟨fn, c, hf, hng f fn hf, hb⟩, ?_⟩⟩
              have hwp := fs φ _ w none h hw (entered_AR hen ha) (hfree.left m2) trivial
              refine callsIn_of_wp_marks hf hb trivial (wpIn_mono hwp fun en ac' w' hp => ?_) (by rfl)
              obtain ⟨rfl, φ', ha', hf'⟩ := hp
              have key : LeavesInM (fen none) 0 P fn ac'.tmps (Ret φ s w (oneOf l) s2) ac'.defers .returning w' := by
                refine f2 φ' w' ac'.defers hf'.rel hf'.wf ha'.defers (hf'.goes.free hfree) fn ac'.tmps _ fun φ2 w2 hf2 => ?_
                obtain ⟨v', r1, r2⟩ := run_results (P := P) hf2.rel (ha'.tmps.mono (hf2.goes.sub (hf'.goes.free hfree))) hr
                exact ⟨v', r1, φ2, v', rfl, r2, hf'.trans hf2⟩
              rcases hx with rfl | rfl
              · exact key
              · exact key

end Go.AM

namespace Go.AM

variable {P : Program} {K : Known} {e : Ev} {φ : Map} {w : World} {s s' : St}

/-! ### rounds -/

theorem setTs_sound {φ : Map} : ∀ {ts : List Tmp} {vs : List V} {vs' : List Value} {n : Nat} {t t' : Tr V} {c : Array Value}, setTs n ts vs t = some t' → VRs φ vs vs' → TmR φ t n c →
    vs'.length = ts.length ∧ TmR φ t' n ((ts.zip vs').foldl (fun tmps (p : Tmp × Value) => tmps.setIfInBounds p.1 p.2) c)
  | [], vs, vs', n, t, t', c, h, hv, ht => by
    cases vs with
    | nil => simp only [setTs] at h; injection h with h; subst h; cases hv; exact ⟨rfl, ht⟩
    | cons v vs => cases h
  | i :: ts, vs, vs', n, t, t', c, h, hv, ht => by
    cases hv with
    | nil => cases h
    | @cons v v' l l' hv1 hv2 =>
      simp only [setTs] at h
      cases hs : setT t n i v with
      | none => rw [hs] at h; cases h
      | some t1 =>
        rw [hs] at h; simp only at h
        obtain ⟨h1, h2⟩ := setTs_sound h hv2 (ht.set hs hv1)
        exact ⟨by simp [h1], by simpa using h2⟩

theorem roundEnd_sound {l : Nat} {x : X} {a : A} {v : V} (hv : roundEnd l (some (x, a, s)) = some (v, s')) : s.next ≤ s'.next ∧
    ∀ (φ : Map) (w : World) (b N : Nat), HR φ s w → Wf s → φ l = some (b, N) → ∃ v' w', (Instr.endRound b (jumpOf x)).run P w = .ok v' w' ∧ VR φ v v' ∧ Fine φ s w φ s' w' := by
  simp only [roundEnd] at hv
  cases hg : getLp s l with
  | none => rw [hg] at hv; cases hv
  | some r =>
    rw [hg] at hv; simp only [endRound] at hv
    have hs := getLp_spec hg
    cases hp : s.put l (some (.loop { r with state := if (jumpOf x).isNone then .ready else .done, pending := jumpOf x })) with
    | none => rw [hp] at hv; cases hv
    | some s1 =>
      rw [hp] at hv; simp only [wWith] at hv
      injection hv with hv; injection hv with e1 e2; subst e1; subst e2
      refine ⟨by rw [put_next hp]; exact Nat.le_refl _, fun φ w b N h hw hl => ?_⟩
      obtain ⟨c, h1, h2⟩ := h.loop hl hs
      exact ⟨_, _, run_endRound (jumpOf x) h1, .bool _, putObj_fine h hw hl hs h1 hp (.loop ⟨rfl, rfl, h2.tmps, h2.params, h2.assign, h2.body, h2.defers⟩)⟩

theorem round_sound (he : EvOK P e) {l : Nat} {args : List V} {v : V} (hv : roundF ⟨P, K, e, none⟩ l args s = some (v, s')) : s.next ≤ s'.next ∧
    ∀ (φ : Map) (w : World) (args' : List Value) (b N : Nat), φ l = some (b, N) → HR φ s w → Wf s → VRs φ args args' → Free φ s s' →
      ∃ fn tmps assign body, (Instr.yield b ⟨args'⟩).run P w = .ok (.round b fn tmps assign body) w ∧ RoundIn (fen none) 0 P b fn tmps assign body w (Ret φ s w v s') := by
  unfold roundF at hv
  cases hg : getLp s l with
  | none => rw [hg] at hv; cases hv
  | some r =>
    rw [hg] at hv; simp only at hv
    have hs := getLp_spec hg
    cases hst : setTs r.size r.params args r.tmps with
    | none => rw [hst] at hv; cases hv
    | some t =>
      rw [hst] at hv; simp only at hv
      cases hc : e.code (some l) r.assign ⟨t, r.size, []⟩ s with
      | none => rw [hc] at hv; cases hv
      | some q =>
        obtain ⟨x, a1, s1⟩ := q
        rw [hc] at hv
        cases x <;> first | (cases hv; done) | skip
        simp only [roundBody] at hv
        obtain ⟨m1, f1⟩ := he.code _ _ _ _ _ _ _ hc
        cases hg1 : getLp s1 l with
        | none => rw [hg1] at hv; cases hv
        | some r1 =>
          rw [hg1] at hv; simp only at hv
          have hs1 := getLp_spec hg1
          have hv2 : r1.state = .ready ∧ (match s1.put l (some (.loop { r1 with state := .busy })) with
              | some s => roundEnd l (e.code (some l) r.body a1 s)
              | none => none) = some (v, s') := by
            cases hst : r1.state with
            | ready => rw [hst] at hv; exact ⟨rfl, hv⟩
            | busy => rw [hst] at hv; cases hv
            | done => rw [hst] at hv; cases hv
            | exhausted => rw [hst] at hv; cases hv
          obtain ⟨hready, hv⟩ := hv2
          cases hp : s1.put l (some (.loop { r1 with state := .busy })) with
          | none => rw [hp] at hv; cases hv
          | some s2 =>
            rw [hp] at hv; simp only at hv
            have hn2 := put_next hp
            cases hb : e.code (some l) r.body a1 s2 with
            | none => rw [hb] at hv; cases hv
            | some q =>
              obtain ⟨y, a2, s3⟩ := q
              rw [hb] at hv
              obtain ⟨m2, f2⟩ := he.code _ _ _ _ _ _ _ hb
              obtain ⟨m3, f3⟩ := roundEnd_sound (P := P) hv
              refine ⟨by omega, fun φ w args' b N hl h hw ha hfree => ?_⟩
              obtain ⟨c, h1, h2⟩ := h.loop hl hs
              obtain ⟨hlen, htm⟩ := setTs_sound hst ha h2.tmps
              have hlenp : (⟨args'⟩ : Array Value).size = c.params.size := by
                have := congrArg List.length h2.params
                simp at this
                simp [hlen]; omega
              have htm' : TmR φ t r.size ((c.params.zip (⟨args'⟩ : Array Value)).foldl (fun tmps (p : Tmp × Value) => tmps.setIfInBounds p.1 p.2) c.tmps) := by
                rw [← h2.params] at htm
                rw [← Array.foldl_toList, Array.toList_zip]
                exact htm
              have hlive : s1.next ≤ s'.next := by omega
              refine ⟨c.fn, _, c.assign, c.body, run_yield h1 hlenp, ?_⟩
              rw [h2.assign, h2.body]
              refine roundIn_of_wpIn trivial ?_
              have hfi : (fen none).inRound b = fen (some b) := rfl
              rw [hfi]
              have hAR : AR φ ⟨t, r.size, []⟩ { tmps := (c.params.zip (⟨args'⟩ : Array Value)).foldl (fun tmps (p : Tmp × Value) => tmps.setIfInBounds p.1 p.2) c.tmps, defers := [] } := ⟨htm', .nil⟩
              refine wpIn_mono (f1 φ _ w (some b) h hw hAR (hfree.left hlive) ⟨N, hl⟩) fun en ac1 w1 hp1 => ?_
              obtain ⟨rfl, φ1, ha1, hf1⟩ := hp1
              have hsub1 := hf1.goes.sub (hfree.left hlive)
              have hl1 := hsub1 _ _ hl
              obtain ⟨c1, g1, g2⟩ := hf1.rel.loop hl1 hs1
              have hfb : Fine φ1 s1 w1 φ1 s2 (w1.putObj b (.loop { c1 with state := .busy })) :=
                putObj_fine hf1.rel hf1.wf hl1 hs1 g1 hp (.loop ⟨rfl, g2.pending, g2.tmps, g2.params, g2.assign, g2.body, g2.defers⟩)
              have hf12 := hf1.trans hfb
              show ∃ w₂, (Instr.beginRound b).run P w1 = .ok () w₂ ∧ r.body.wpIn (fen (some b)) 0 P (roundPost P b (Ret φ s w v s')) ac1 w₂
              refine ⟨_, run_beginRound g1 (by rw [g2.state]; exact hready), ?_⟩
              have hfree2 : Free φ1 s2 s' := hf12.goes.free hfree
              refine wpIn_mono (f2 φ1 ac1 _ (some b) hfb.rel hfb.wf ha1 (hfree2.left m3) ⟨N, hl1⟩) fun en ac2 w2 hp2 => ?_
              obtain ⟨rfl, φ2, ha2, hf2⟩ := hp2
              have hl2 := hf2.goes.sub (hfree2.left m3) _ _ hl1
              obtain ⟨v', w3, k1, k2, k3⟩ := f3 φ2 w2 b N hf2.rel hf2.wf hl2
              have hret : Ret φ s w v s' (.returned v') w3 := ⟨φ2, v', rfl, k2, (hf12.trans hf2).trans k3⟩
              cases y with
              | normal => exact ⟨v', w3, k1, hret⟩
              | ret => exact ⟨v', w3, k1, hret⟩
              | exit id => exact ⟨v', w3, k1, hret⟩
              | goto t => exact ⟨v', w3, k1, hret⟩

/-! ### a level above -/

theorem level_sound (hng : ∀ (f : FuncId) (fn : Func), P.funcs[f]? = some fn → (fn.name == "runtime.NumGoroutine") = false) (hK : KOK P K) (he : EvOK P e) (hL : LoopOK P e) (hD : DrawOK P K e) : EvOK P (level P K e) ∧ LoopOK P (level P K e) := by
  refine ⟨⟨fun rnd c a s x a' s' hv => code_sound hK he hL hD c hv, fun f args s v s' hv => call_sound hng hK he hv, fun l args s v s' hv => round_sound he hv⟩, ?_⟩
  intro rnd c a s x a' s' hv φ ac w rb h hw ha hfree hr
  have hv : thenC (run1 ⟨P, K, e, rnd⟩ (.loop c)) (run1 ⟨P, K, e, rnd⟩ c a s) = some (x, a', s') := hv
  rcases thenC_spec hv with ⟨a1, s1, h1, h2⟩ | ⟨h1, hx⟩
  · obtain ⟨m1, f1⟩ := he.code _ _ _ _ _ _ _ h1
    obtain ⟨m2, _⟩ := he.code _ _ _ _ _ _ _ h2
    refine loopIn_of_wpIn (wpIn_mono (f1 φ ac w rb h hw ha (hfree.left m2) hr) fun en ac1 w1 hp => ?_)
    obtain ⟨rfl, φ1, ha1, hf1⟩ := hp
    exact (hL _ _ _ _ _ _ _ h2 φ1 ac1 w1 rb hf1.rel hf1.wf ha1 (hf1.goes.free hfree) (hr.mono (hf1.goes.sub (hfree.left m2)))).mono (Post.trans hf1)
  · obtain ⟨m1, f1⟩ := he.code _ _ _ _ _ _ _ h1
    exact loopIn_of_wpIn (wpIn_mono (f1 φ ac w rb h hw ha hfree hr) (then_post hx))

theorem bot_sound : EvOK P bot ∧ LoopOK P bot :=
  ⟨⟨fun _ _ _ _ _ _ _ h => (by cases h), fun _ _ _ _ _ h => (by cases h), fun _ _ _ _ _ h => (by cases h)⟩, fun _ _ _ _ _ _ _ h => (by cases h)⟩

theorem evN_sound (hng : ∀ (f : FuncId) (fn : Func), P.funcs[f]? = some fn → (fn.name == "runtime.NumGoroutine") = false) (hK : KOK P K) (hD : ∀ e, EvOK P e → DrawOK P K e) : ∀ n, EvOK P (evN P K n) ∧ LoopOK P (evN P K n)
  | 0 => bot_sound
  | n + 1 => by
    obtain ⟨h1, h2⟩ := evN_sound hng hK hD n
    exact level_sound hng hK h1 h2 (hD _ h1)

end Go.AM
