import Derived.Test.YtelhhbcccndaaaaGreatDoorXm
import Derived.Tactics
import Derived.Orders
/-! Regions in the text's order. -/
namespace Go.Fx
set_option linter.unusedVariables false
set_option linter.unusedSimpArgs false

section
variable (P : Program)
/-- what a call has come to -/
def Ret (φ : Nat → Option (Nat × Nat)) (H : Hp) (w : World) (v : AV) (H' : Hp) : Ending → World → Prop :=
  fun e w' => ∃ cv ψ, e = .returned cv ∧ Rel ψ v cv ∧ HR ψ H' w' ∧ Ext φ H w ψ H' w'
def Came (φ : Nat → Option (Nat × Nat)) (H : Hp) (w : World) (f : FuncId) (vs : List Value) (v : AV) (H' : Hp) : Prop :=
  (∃ cv w' ψ, (callFunc f vs.toArray).run P w = .ok (.value cv) w' ∧ Rel ψ v cv ∧ HR ψ H' w' ∧ Ext φ H w ψ H' w') ∨
  ((callFunc f vs.toArray).run P w = .ok (.enter f vs.toArray) w ∧ Calls P f vs.toArray w (Ret φ H w v H'))
/-- the calls are as they are told -/
def Sound (call : CallT) : Prop := ∀ f args H v H', call f args H = some (v, H') → ∀ φ w vs, HR φ H w → RelL φ args vs → Came P φ H w f vs v H'
end

section
variable {P : Program} {φ : Nat → Option (Nat × Nat)} {H : Hp} {w : World} {call : CallT} {x : XR} {a : Act} {ρA : Operand → Option AV} {c : K}

theorem op_wp {o : Oper} {r : R} {K : Act → World → Prop} {Q : Exit → Act → World → Prop} (hs : Sound P call) (h : HR φ H w) (hρ : ∀ x v, ρA x = some v → Rel φ v (a.eval x)) (ho : opA P ρA H o = some r) (ha : After call c x r)
    (hK : ∀ v H' ψ cv w', c v H' = x → Rel ψ v cv → HR ψ H' w' → Ext φ H w ψ H' w' → K (a.put o.dst cv) w') : o.wp P a w K Q := by
  unfold Oper.wp
  cases opA_ok hρ h ho with
  | val n cv w' ψ e hn r1 r2 r3 =>
    rw [e]
    rcases hn with rfl | ⟨rfl, rfl⟩
    · exact hK _ _ _ _ _ ha r1 r2 r3
    · exact hK _ _ _ _ _ ha r1 r2 r3
  | enter vs e r1 =>
    obtain ⟨v, H', h1, h2⟩ := ha
    rw [e]
    rcases hs _ _ _ _ _ h1 φ w vs h r1 with ⟨cv, w', ψ, g1, g2, g3, g4⟩ | ⟨g1, g2⟩
    · rw [g1]; exact hK _ _ _ _ _ h2 g2 g3 g4
    · rw [g1]
      refine Calls.mono g2 fun e w' he => ?_
      obtain ⟨cv, ψ, rfl, k1, k2, k3⟩ := he
      exact hK _ _ _ _ _ h2 k1 k2 k3

/-! the slots -/
theorem eval_put_same {d : Nat} {v : Value} (h : d < a.tmps.size) : (a.put (some d) v).eval (.tmp d) = v := by
  simp [Act.put, Act.eval, h]
theorem eval_put_ne {d t : Nat} {v : Value} (h : t ≠ d) : (a.put (some d) v).eval (.tmp t) = a.eval (.tmp t) :=
  Act.eval_put fun e he => by cases he; intro hc; exact h (by injection hc)
theorem put_size (dst : Option Tmp) (v : Value) : (a.put dst v).tmps.size = a.tmps.size := by cases dst <;> simp [Act.put]
theorem put_defers (dst : Option Tmp) (v : Value) : (a.put dst v).defers = a.defers := by cases dst <;> rfl

/-- an alias or a height is well formed -/
def wfA (n : Nat) : CA → Prop
  | .abs k => k < n
  | .co (.loc _) => False
  | .co _ => True
theorem evC_push {ca : CA} {stk : List AV} {ts : VT} {v : AV} (h : wfA stk.length ca) : evC (coOf (v :: stk).length ca) (v :: stk) ts = evC (coOf stk.length ca) stk ts := by
  cases ca with
  | abs k =>
    have h : k < stk.length := h
    show (v :: stk)[stk.length + 1 - 1 - k]? = stk[stk.length - 1 - k]?
    rw [show stk.length + 1 - 1 - k = (stk.length - 1 - k) + 1 by omega]; rfl
  | co c => cases c <;> first | exact h.elim | rfl
theorem wfA_push {ca : CA} {n : Nat} (h : wfA n ca) : wfA (n + 1) ca := by
  cases ca with
  | abs k => exact Nat.lt_succ_of_lt h
  | co c => cases c <;> exact h

variable {N mask : Nat}
/-- the slots that are kept -/
def RT (N mask : Nat) (φ : Nat → Option (Nat × Nat)) (ts : VT) (a : Act) : Prop := ∀ t v, evC (varT N mask t) [] ts = some v → Rel φ v (a.eval (.tmp t))
theorem varT_stk (t : Nat) (stk : List AV) (ts : VT) : evC (varT N mask t) stk ts = evC (varT N mask t) [] ts := by
  unfold varT; cases (Nat.blt t N && Nat.testBit mask t) <;> rfl
theorem varT_some {t : Nat} {v : AV} {ts : VT} (h : evC (varT N mask t) [] ts = some v) : t < N ∧ Nat.testBit mask t = true ∧ getP (posOf 24 t) ts = some v := by
  unfold varT at h
  cases hc : (Nat.blt t N && Nat.testBit mask t) with
  | false => rw [hc] at h; cases h
  | true =>
    rw [hc] at h
    rw [Bool.and_eq_true, blt_iff] at hc
    exact ⟨hc.1, hc.2, h⟩
theorem varT_wf (t n : Nat) : wfA n (.co (varT N mask t)) := by unfold varT; cases (Nat.blt t N && Nat.testBit mask t) <;> trivial

/-- a region's slots -/
structure Env (N mask : Nat) (φ : Nat → Option (Nat × Nat)) (env : List (Nat × CA)) (stk : List AV) (ts : VT) (a : Act) : Prop where
  rel : ∀ t v, evC (resT N mask env stk.length t) stk ts = some v → Rel φ v (a.eval (.tmp t))
  wf : ∀ t ca, lookE t env = some ca → wfA stk.length ca ∧ t < N
  size : N ≤ a.tmps.size

theorem Env.start {ts : VT} (h : RT N mask φ ts a) (hN : N ≤ a.tmps.size) : Env N mask φ [] [] ts a := ⟨h, fun t ca e => by (exact absurd e (by simp [lookE])), hN⟩
theorem Env.mono {ψ : Nat → Option (Nat × Nat)} {env : List (Nat × CA)} {stk : List AV} {ts : VT} (h : Env N mask φ env stk ts a) (hs : ∀ i b, φ i = some b → ψ i = some b) : Env N mask ψ env stk ts a :=
  ⟨fun t v e => (h.rel t v e).mono hs, h.wf, h.size⟩
theorem Env.at {env : List (Nat × CA)} {stk : List AV} {ts : VT} (h : Env N mask φ env stk ts a) : ∀ y v, At (resO N mask env stk.length) stk ts y = some v → Rel φ v (a.eval y) := by
  intro y v e
  cases y with
  | tmp t => exact h.rel t v e
  | const cv =>
    have e : evC (match ofConst cv with | some a => .cst a | none => .bad) stk ts = some v := e
    cases hc : ofConst cv with
    | none => rw [hc] at e; cases e
    | some b => rw [hc] at e; obtain rfl := Option.some.inj (show some b = some v from e); exact (ofConst_rel hc).1
  | func f =>
    obtain rfl := Option.some.inj (show some (AV.func (.func f) .nil .nil) = some v from e)
    exact .func .nil .nil
  | global g => cases e
theorem lookE_cons (t : Nat) (d : Nat) (ca : CA) (env : List (Nat × CA)) : lookE t ((d, ca) :: env) = if t = d then some ca else lookE t env := by
  show cond (Nat.beq d t) (some ca) (lookE t env) = _
  by_cases h : t = d
  · subst h; rw [(beq_iff _ _).2 rfl, if_pos rfl]; rfl
  · rw [if_neg h]
    cases hb : Nat.beq d t with
    | false => rfl
    | true => rw [beq_iff] at hb; exact absurd hb.symm h
/-- a value comes on the stack, and into a slot -/
theorem Env.push {env : List (Nat × CA)} {stk : List AV} {ts : VT} {d : Nat} {v : AV} {cv : Value} (h : Env N mask φ env stk ts a) (hd : d < N) (r : Rel φ v cv) : Env N mask φ ((d, .abs stk.length) :: env) (v :: stk) ts (a.put (some d) cv) where
  rel t u e := by
    unfold resT at e
    rw [lookE_cons] at e
    by_cases ht : t = d
    · subst ht
      rw [if_pos rfl] at e
      have e : (v :: stk)[(stk.length + 1) - 1 - stk.length]? = some u := e
      rw [show (stk.length + 1) - 1 - stk.length = 0 by omega] at e
      obtain rfl := Option.some.inj e
      rw [eval_put_same (Nat.lt_of_lt_of_le hd h.size)]; exact r
    · rw [if_neg ht] at e
      rw [eval_put_ne ht]
      refine h.rel t u ?_
      unfold resT
      cases hl : lookE t env with
      | none => rw [hl] at e; simp only at e ⊢; rw [varT_stk] at e ⊢; exact e
      | some ca => rw [hl] at e; simp only at e ⊢; rw [evC_push (h.wf t ca hl).1] at e; exact e
  wf t ca e := by
    rw [lookE_cons] at e
    by_cases ht : t = d
    · subst ht; rw [if_pos rfl] at e; obtain rfl := Option.some.inj e; exact ⟨Nat.lt_succ_self _, hd⟩
    · rw [if_neg ht] at e; exact ⟨wfA_push (h.wf t ca e).1, (h.wf t ca e).2⟩
  size := by rw [put_size]; exact h.size
/-- a value comes on the stack alone -/
theorem Env.push0 {env : List (Nat × CA)} {stk : List AV} {ts : VT} {v : AV} (h : Env N mask φ env stk ts a) : Env N mask φ env (v :: stk) ts a where
  rel t u e := by
    refine h.rel t u ?_
    unfold resT at e ⊢
    cases hl : lookE t env with
    | none => rw [hl] at e; simp only at e ⊢; rw [varT_stk] at e ⊢; exact e
    | some ca => rw [hl] at e; simp only at e ⊢; rw [evC_push (h.wf t ca hl).1] at e; exact e
  wf t ca e := ⟨wfA_push (h.wf t ca e).1, (h.wf t ca e).2⟩
  size := h.size
/-- a slot stands for an operand -/
theorem Env.alias {env : List (Nat × CA)} {stk : List AV} {ts : VT} {d : Nat} {y : Operand} {ca : CA} (h : Env N mask φ env stk ts a) (hd : d < N) (e : aliasO N mask env y = some ca) : Env N mask φ ((d, ca) :: env) stk ts (a.put (some d) (a.eval y)) := by
  have hw : wfA stk.length ca ∧ ∀ v, evC (coOf stk.length ca) stk ts = some v → Rel φ v (a.eval y) := by
    cases y with
    | tmp t =>
      unfold aliasO at e
      cases hl : lookE t env with
      | some cb =>
        simp only [hl] at e
        obtain rfl := Option.some.inj e
        exact ⟨(h.wf t _ hl).1, fun v hv => h.rel t v (by unfold resT; rw [hl]; exact hv)⟩
      | none =>
        simp only [hl] at e
        obtain rfl := Option.some.inj e
        exact ⟨varT_wf t _, fun v hv => h.rel t v (by unfold resT; rw [hl]; exact hv)⟩
    | const cv =>
      obtain ⟨b, h1, rfl⟩ := map_some (show (ofConst cv).map _ = some ca from e)
      refine ⟨trivial, fun v hv => ?_⟩
      obtain rfl := Option.some.inj (show some b = some v from hv)
      exact (ofConst_rel h1).1
    | func f =>
      obtain rfl := Option.some.inj (show some (CA.co (.cst (.func (.func f) .nil .nil))) = some ca from e)
      refine ⟨trivial, fun v hv => ?_⟩
      obtain rfl := Option.some.inj (show some (AV.func (.func f) .nil .nil) = some v from hv)
      exact .func .nil .nil
    | global g => cases e
  refine ⟨fun t u e => ?_, fun t cb e => ?_, by rw [put_size]; exact h.size⟩
  · unfold resT at e
    rw [lookE_cons] at e
    by_cases ht : t = d
    · subst ht
      rw [if_pos rfl] at e
      rw [eval_put_same (Nat.lt_of_lt_of_le hd h.size)]
      exact hw.2 u e
    · rw [if_neg ht] at e
      rw [eval_put_ne ht]
      exact h.rel t u e
  · rw [lookE_cons] at e
    by_cases ht : t = d
    · subst ht; rw [if_pos rfl] at e; obtain rfl := Option.some.inj e; exact ⟨hw.1, hd⟩
    · rw [if_neg ht] at e; exact h.wf t cb e
end
end Go.Fx
