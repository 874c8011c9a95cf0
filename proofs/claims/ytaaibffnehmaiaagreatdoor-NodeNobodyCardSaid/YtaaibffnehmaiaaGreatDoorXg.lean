import Derived.Test.YtaaibffnehmaiaaGreatDoorXf
import Derived.Tactics
import Derived.Orders
/-! Regions in the text's order. -/
namespace Go.Fx
set_option linter.unusedVariables false
set_option linter.unusedSimpArgs false

section
variable (P : Program)
/-- what a call has come to -/
def Ret (φ : Nat → Option (Blk × Nat)) (H : Hp) (w : World) (v : AV) (H' : Hp) : Ending → World → Prop :=
  fun e w' => ∃ cv ψ, e = .returned cv ∧ Rel ψ v cv ∧ HR ψ H' w' ∧ Ext φ H w ψ H' w'
def Came (φ : Nat → Option (Blk × Nat)) (H : Hp) (w : World) (f : FuncId) (vs : List Value) (v : AV) (H' : Hp) : Prop :=
  (∃ cv w' ψ, (callFunc f vs.toArray).run P w = .ok (.value cv) w' ∧ Rel ψ v cv ∧ HR ψ H' w' ∧ Ext φ H w ψ H' w') ∨
  ((callFunc f vs.toArray).run P w = .ok (.enter f vs.toArray) w ∧ Calls P f vs.toArray w (Ret φ H w v H'))
/-- the calls are as they are told -/
def Sound (call : CallT) : Prop := ∀ f args H v H', call f args H = some (v, H') → ∀ φ w vs, HR φ H w → RelL φ args vs → Came P φ H w f vs v H'
end

section
variable {P : Program} {φ : Nat → Option (Blk × Nat)} {H : Hp} {w : World} {call : CallT} {x : XR} {a : Act} {ρA : Operand → Option AV} {c : K}

theorem op_wp {o : Oper} {r : R} {K : Act → World → Prop} {Q : Exit → Act → World → Prop} (hs : Sound P call) (h : HR φ H w) (hρ : ∀ x v, ρA x = some v → Rel φ v (a.eval x)) (ho : opA P ρA H o = some r) (ha : After call c x r)
    (hK : ∀ v H' ψ cv w', c v H' = x → Rel ψ v cv → HR ψ H' w' → Ext φ H w ψ H' w' → K (a.put o.dst cv) w') : o.wp P a w K Q := by
  unfold Oper.wp
  cases opA_ok hρ h ho with
  | val n cv w' ψ e hn r1 r2 r3 =>
    rw [e]
    rcases hn with rfl | ⟨rfl, rfl⟩
    · exact hK _ _ _ _ _ ha r1 r2 r3
    · exact hK _ _ _ _ _ ha r1 r2 r3
  | enter vs e r1 =>
    obtain ⟨v, H', h1, h2⟩ := ha
    rw [e]
    rcases hs _ _ _ _ _ h1 φ w vs h r1 with ⟨cv, w', ψ, g1, g2, g3, g4⟩ | ⟨g1, g2⟩
    · rw [g1]; exact hK _ _ _ _ _ h2 g2 g3 g4
    · rw [g1]
      refine Calls.mono g2 fun e w' he => ?_
      obtain ⟨cv, ψ, rfl, k1, k2, k3⟩ := he
      exact hK _ _ _ _ _ h2 k1 k2 k3

/-! the slots -/
theorem eval_put_same {d : Nat} {v : Value} (h : d < a.tmps.size) : (a.put (some d) v).eval (.tmp d) = v := by
  simp [Act.put, Act.eval, h]
theorem eval_put_ne {d t : Nat} {v : Value} (h : t ≠ d) : (a.put (some d) v).eval (.tmp t) = a.eval (.tmp t) :=
  Act.eval_put fun e he => by cases he; intro hc; exact h (by injection hc)
theorem put_size (dst : Option Tmp) (v : Value) : (a.put dst v).tmps.size = a.tmps.size := by cases dst <;> simp [Act.put]
theorem put_defers (dst : Option Tmp) (v : Value) : (a.put dst v).defers = a.defers := by cases dst <;> rfl

/-- an alias or a height is well formed -/
def wfA (n : Nat) : CA → Prop
  | .abs k => k < n
  | .co (.loc _) => False
  | .co _ => True
theorem evC_push {ca : CA} {stk : List AV} {ts : VT} {v : AV} (h : wfA stk.length ca) : evC (coOf (v :: stk).length ca) (v :: stk) ts = evC (coOf stk.length ca) stk ts := by
  cases ca with
  | abs k =>
    have h : k < stk.length := h
    show (v :: stk)[stk.length + 1 - 1 - k]? = stk[stk.length - 1 - k]?
    rw [show stk.length + 1 - 1 - k = (stk.length - 1 - k) + 1 by omega]; rfl
  | co c => cases c <;> first | exact h.elim | rfl
theorem wfA_push {ca : CA} {n : Nat} (h : wfA n ca) : wfA (n + 1) ca := by
  cases ca with
  | abs k => exact Nat.lt_succ_of_lt h
  | co c => cases c <;> exact h

variable {N mask : Nat}
/-- the slots that are kept -/
def RT (N mask : Nat) (φ : Nat → Option (Blk × Nat)) (ts : VT) (a : Act) : Prop := ∀ t v, evC (varT N mask t) [] ts = some v → Rel φ v (a.eval (.tmp t))
theorem varT_stk (t : Nat) (stk : List AV) (ts : VT) : evC (varT N mask t) stk ts = evC (varT N mask t) [] ts := by
  unfold varT; cases (Nat.blt t N && Nat.testBit mask t) <;> rfl
theorem varT_some {t : Nat} {v : AV} {ts : VT} (h : evC (varT N mask t) [] ts = some v) : t < N ∧ Nat.testBit mask t = true ∧ getP (posOf 24 t) ts = some v := by
  unfold varT at h
  cases hc : (Nat.blt t N && Nat.testBit mask t) with
  | false => rw [hc] at h; cases h
  | true =>
    rw [hc] at h
    rw [Bool.and_eq_true, blt_iff] at hc
    exact ⟨hc.1, hc.2, h⟩
theorem varT_wf (t n : Nat) : wfA n (.co (varT N mask t)) := by unfold varT; cases (Nat.blt t N && Nat.testBit mask t) <;> trivial

/-- a region's slots -/
structure Env (N mask : Nat) (φ : Nat → Option (Blk × Nat)) (env : List (Nat × CA)) (stk : List AV) (ts : VT) (a : Act) : Prop where
  rel : ∀ t v, evC (resT N mask env stk.length t) stk ts = some v → Rel φ v (a.eval (.tmp t))
  wf : ∀ t ca, lookE t env = some ca → wfA stk.length ca ∧ t < N
  size : N ≤ a.tmps.size

theorem Env.start {ts : VT} (h : RT N mask φ ts a) (hN : N ≤ a.tmps.size) : Env N mask φ [] [] ts a := ⟨h, fun t ca e => by (exact absurd e (by simp [lookE])), hN⟩
theorem Env.mono {ψ : Nat → Option (Blk × Nat)} {env : List (Nat × CA)} {stk : List AV} {ts : VT} (h : Env N mask φ env stk ts a) (hs : ∀ i b, φ i = some b → ψ i = some b) : Env N mask ψ env stk ts a :=
  ⟨fun t v e => (h.rel t v e).mono hs, h.wf, h.size⟩
theorem Env.at {env : List (Nat × CA)} {stk : List AV} {ts : VT} (h : Env N mask φ env stk ts a) : ∀ y v, At (resO N mask env stk.length) stk ts y = some v → Rel φ v (a.eval y) := by
  intro y v e
  cases y with
  | tmp t => exact h.rel t v e
  | const cv =>
    have e : evC (match ofConst cv with | some a => .cst a | none => .bad) stk ts = some v := e
    cases hc : ofConst cv with
    | none => rw [hc] at e; cases e
    | some b => rw [hc] at e; obtain rfl := Option.some.inj (show some b = some v from e); exact (ofConst_rel hc).1
  | func f =>
    obtain rfl := Option.some.inj (show some (AV.func (.func f) .nil .nil) = some v from e)
    exact .func .nil .nil
  | global g => cases e
theorem lookE_cons (t : Nat) (d : Nat) (ca : CA) (env : List (Nat × CA)) : lookE t ((d, ca) :: env) = if t = d then some ca else lookE t env := by
  show cond (Nat.beq d t) (some ca) (lookE t env) = _
  by_cases h : t = d
  · subst h; rw [(beq_iff _ _).2 rfl, if_pos rfl]; rfl
  · rw [if_neg h]
    cases hb : Nat.beq d t with
    | false => rfl
    | true => rw [beq_iff] at hb; exact absurd hb.symm h
/-- a value comes on the stack, and into a slot -/
theorem Env.push {env : List (Nat × CA)} {stk : List AV} {ts : VT} {d : Nat} {v : AV} {cv : Value} (h : Env N mask φ env stk ts a) (hd : d < N) (r : Rel φ v cv) : Env N mask φ ((d, .abs stk.length) :: env) (v :: stk) ts (a.put (some d) cv) where
  rel t u e := by
    unfold resT at e
    rw [lookE_cons] at e
    by_cases ht : t = d
    · subst ht
      rw [if_pos rfl] at e
      have e : (v :: stk)[(stk.length + 1) - 1 - stk.length]? = some u := e
      rw [show (stk.length + 1) - 1 - stk.length = 0 by omega] at e
      obtain rfl := Option.some.inj e
      rw [eval_put_same (Nat.lt_of_lt_of_le hd h.size)]; exact r
    · rw [if_neg ht] at e
      rw [eval_put_ne ht]
      refine h.rel t u ?_
      unfold resT
      cases hl : lookE t env with
      | none => rw [hl] at e; simp only at e ⊢; rw [varT_stk] at e ⊢; exact e
      | some ca => rw [hl] at e; simp only at e ⊢; rw [evC_push (h.wf t ca hl).1] at e; exact e
  wf t ca e := by
    rw [lookE_cons] at e
    by_cases ht : t = d
    · subst ht; rw [if_pos rfl] at e; obtain rfl := Option.some.inj e; exact ⟨Nat.lt_succ_self _, hd⟩
    · rw [if_neg ht] at e; exact ⟨wfA_push (h.wf t ca e).1, (h.wf t ca e).2⟩
  size := by rw [put_size]; exact h.size
/-- a value comes on the stack alone -/
theorem Env.push0 {env : List (Nat × CA)} {stk : List AV} {ts : VT} {v : AV} (h : Env N mask φ env stk ts a) : Env N mask φ env (v :: stk) ts a where
  rel t u e := by
    refine h.rel t u ?_
    unfold resT at e ⊢
    cases hl : lookE t env with
    | none => rw [hl] at e; simp only at e ⊢; rw [varT_stk] at e ⊢; exact e
    | some ca => rw [hl] at e; simp only at e ⊢; rw [evC_push (h.wf t ca hl).1] at e; exact e
  wf t ca e := ⟨wfA_push (h.wf t ca e).1, (h.wf t ca e).2⟩
  size := h.size
/-- a slot stands for an operand -/
theorem Env.alias {env : List (Nat × CA)} {stk : List AV} {ts : VT} {d : Nat} {y : Operand} {ca : CA} (h : Env N mask φ env stk ts a) (hd : d < N) (e : aliasO N mask env y = some ca) : Env N mask φ ((d, ca) :: env) stk ts (a.put (some d) (a.eval y)) := by
  have hw : wfA stk.length ca ∧ ∀ v, evC (coOf stk.length ca) stk ts = some v → Rel φ v (a.eval y) := by
    cases y with
    | tmp t =>
      unfold aliasO at e
      cases hl : lookE t env with
      | some cb =>
        simp only [hl] at e
        obtain rfl := Option.some.inj e
        exact ⟨(h.wf t _ hl).1, fun v hv => h.rel t v (by unfold resT; rw [hl]; exact hv)⟩
      | none =>
        simp only [hl] at e
        obtain rfl := Option.some.inj e
        exact ⟨varT_wf t _, fun v hv => h.rel t v (by unfold resT; rw [hl]; exact hv)⟩
    | const cv =>
      obtain ⟨b, h1, rfl⟩ := map_some (show (ofConst cv).map _ = some ca from e)
      refine ⟨trivial, fun v hv => ?_⟩
      obtain rfl := Option.some.inj (show some b = some v from hv)
      exact (ofConst_rel h1).1
    | func f =>
      obtain rfl := Option.some.inj (show some (CA.co (.cst (.func (.func f) .nil .nil))) = some ca from e)
      refine ⟨trivial, fun v hv => ?_⟩
      obtain rfl := Option.some.inj (show some (AV.func (.func f) .nil .nil) = some v from hv)
      exact .func .nil .nil
    | global g => cases e
  refine ⟨fun t u e => ?_, fun t cb e => ?_, by rw [put_size]; exact h.size⟩
  · unfold resT at e
    rw [lookE_cons] at e
    by_cases ht : t = d
    · subst ht
      rw [if_pos rfl] at e
      rw [eval_put_same (Nat.lt_of_lt_of_le hd h.size)]
      exact hw.2 u e
    · rw [if_neg ht] at e
      rw [eval_put_ne ht]
      exact h.rel t u e
  · rw [lookE_cons] at e
    by_cases ht : t = d
    · subst ht; rw [if_pos rfl] at e; obtain rfl := Option.some.inj e; exact ⟨hw.1, hd⟩
    · rw [if_neg ht] at e; exact h.wf t cb e
end
end Go.Fx

/-! A region in the text's order. -/
namespace Go.Fx
set_option linter.unusedVariables false
set_option linter.unusedSimpArgs false

section
variable {P : Program} {φ : Nat → Option (Blk × Nat)} {H : Hp} {w : World} {call : CallT} {x : XR} {a : Act} {N mask : Nat}

theorem flush_inv (hx : x ≠ .fail) {stk : List AV} {ts0 : VT} : ∀ {l : List (Pos × CO)} {ts : VT} {k : VT → XR}, flushK l stk ts0 ts k = x →
    ∃ ts', k ts' = x ∧ ∀ q v, getP q ts' = some v → (∃ c, (q, c) ∈ l ∧ evC c stk ts0 = some v) ∨ ((∀ c, (q, c) ∉ l) ∧ getP q ts = some v)
  | [], ts, k, h => ⟨ts, h, fun q v e => .inr ⟨fun c => nofun, e⟩⟩
  | (p, c) :: l, ts, k, h => by
    obtain ⟨u, h1, h2⟩ := evK_inv hx (show evK c stk ts0 (fun v => flushK l stk ts0 (setP p (some v) ts) k) = x from h)
    obtain ⟨ts', h3, h4⟩ := flush_inv hx h2
    refine ⟨ts', h3, fun q v e => ?_⟩
    rcases h4 q v e with ⟨c', h5, h6⟩ | ⟨h5, h6⟩
    · exact .inl ⟨c', List.mem_cons_of_mem _ h5, h6⟩
    · by_cases hq : p = q
      · subst hq
        rw [getP_setP_self] at h6
        obtain rfl := Option.some.inj h6
        exact .inl ⟨c, List.mem_cons_self .., h1⟩
      · rw [getP_setP_ne _ _ _ _ hq] at h6
        refine .inr ⟨fun c' hm => ?_, h6⟩
        rcases List.mem_cons.1 hm with e | e
        · exact hq (Prod.mk.inj e).1.symm
        · exact h5 c' e

theorem testBit_bitOr (m t u : Nat) : Nat.testBit (bitOr m t) u = (Nat.testBit m u || decide (u = t)) := by
  unfold bitOr
  show Nat.testBit (m ||| (1 <<< t)) u = _
  rw [Nat.testBit_or, Nat.testBit_shiftLeft]
  congr 1
  rw [Bool.eq_iff_iff, Bool.and_eq_true, decide_eq_true_eq, decide_eq_true_eq, Nat.testBit_one_eq_true_iff_self_eq_zero]
  omega

theorem flushOf_mem {n : Nat} : ∀ {env : List (Nat × CA)} {seen : Nat} {q : Pos} {c : CO}, (q, c) ∈ flushOf mask n env seen →
    ∃ t ca, q = posOf 24 t ∧ c = coOf n ca ∧ lookE t env = some ca ∧ Nat.testBit seen t = false ∧ Nat.testBit mask t = true
  | [], seen, q, c, h => by cases h
  | (t0, a0) :: l, seen, q, c, h => by
    unfold flushOf at h
    cases hc : (Nat.testBit mask t0 && !(Nat.testBit seen t0)) with
    | true =>
      rw [hc, cond_true] at h
      rw [Bool.and_eq_true] at hc
      rcases List.mem_cons.1 h with e | e
      · obtain ⟨rfl, rfl⟩ := Prod.mk.inj e
        exact ⟨t0, a0, rfl, rfl, by rw [lookE_cons, if_pos rfl], by simpa using hc.2, hc.1⟩
      · obtain ⟨t, ca, h1, h2, h3, h4, h5⟩ := flushOf_mem e
        rw [testBit_bitOr, Bool.or_eq_false_iff, decide_eq_false_iff_not] at h4
        exact ⟨t, ca, h1, h2, by rw [lookE_cons, if_neg h4.2]; exact h3, h4.1, h5⟩
    | false =>
      rw [hc, cond_false] at h
      obtain ⟨t, ca, h1, h2, h3, h4, h5⟩ := flushOf_mem h
      refine ⟨t, ca, h1, h2, ?_, h4, h5⟩
      rw [lookE_cons, if_neg]
      · exact h3
      · rintro rfl
        rw [h4, h5] at hc; cases hc
theorem flushOf_all {n : Nat} : ∀ {env : List (Nat × CA)} {seen t : Nat} {ca : CA}, lookE t env = some ca → Nat.testBit seen t = false → Nat.testBit mask t = true → (posOf 24 t, coOf n ca) ∈ flushOf mask n env seen
  | [], seen, t, ca, h, _, _ => by cases h
  | (t0, a0) :: l, seen, t, ca, h, h1, h2 => by
    rw [lookE_cons] at h
    unfold flushOf
    by_cases ht : t = t0
    · subst ht
      rw [if_pos rfl] at h
      obtain rfl := Option.some.inj h
      rw [h1, h2]
      exact List.mem_cons_self ..
    · rw [if_neg ht] at h
      cases hc : (Nat.testBit mask t0 && !(Nat.testBit seen t0)) with
      | true =>
        rw [cond_true]
        refine List.mem_cons_of_mem _ (flushOf_all h ?_ h2)
        rw [testBit_bitOr, h1, Bool.false_or, decide_eq_false_iff_not]; exact ht
      | false => rw [cond_false]; exact flushOf_all h h1 h2

theorem flush_rt (hx : x ≠ .fail) {env : List (Nat × CA)} {stk : List AV} {ts : VT} {k : VT → XR} (hN : N ≤ 65536) (he : Env N mask φ env stk ts a) (h : flushK (flushOf mask stk.length env 0) stk ts ts k = x) :
    ∃ ts', k ts' = x ∧ RT N mask φ ts' a := by
  obtain ⟨ts', h1, h2⟩ := flush_inv hx h
  refine ⟨ts', h1, fun t v hv => ?_⟩
  obtain ⟨g1, g2, g3⟩ := varT_some hv
  refine he.rel t v ?_
  unfold resT
  rcases h2 _ _ g3 with ⟨c, h3, h4⟩ | ⟨h3, h4⟩
  · obtain ⟨t', ca, e1, rfl, e3, _, _⟩ := flushOf_mem h3
    have hlt := (he.wf t' ca e3).2
    have := posOf_inj 24 t t' (by omega) (by omega) e1
    subst this
    rw [e3]; exact h4
  · cases hl : lookE t env with
    | some ca => exact absurd (flushOf_all (n := stk.length) hl (by simp) g2) (h3 _)
    | none =>
      simp only
      unfold varT
      rw [(blt_iff _ _).2 g1, g2]
      exact h4

/-! guards -/
theorem rel_bool {v : AV} {b : Bool} (r : Rel φ v (.bool b)) : v = .bool b := by cases r; rfl
theorem yielded_eq {ops : Array Oper} {j g : Nat} (hg : guardT ops.toList j = some g) : yielded ops a.tmps j = match a.eval (.tmp g) with | .bool b => some b | _ => none := by
  unfold guardT at hg
  unfold yielded
  have : (ops[j]?).bind (·.dst) = some g := by simpa using hg
  rw [this, Option.bind_some]
  show (match a.tmps[g]? with | some (.bool b) => some b | _ => none) = match a.tmps.getD g undef with | .bool b => some b | _ => none
  cases hc : a.tmps[g]? with
  | none =>
    have : a.tmps.getD g undef = undef := by simp [Array.getD_eq_getD_getElem?, hc]
    rw [this]; rfl
  | some v =>
    have : a.tmps.getD g undef = v := by simp [Array.getD_eq_getD_getElem?, hc]
    rw [this]
    cases v <;> rfl
theorem guard_inv (hx : x ≠ .fail) {q : CO} {want : Bool} {b : BOp} {stk : List AV} {ts : VT} {c : K} (h : runO (.mk (guardK q want b)) call stk ts H c = x) :
    ∃ v, evC q stk ts = some v ∧ ((v = .bool want ∧ runO b call stk ts H c = x) ∨ (v ≠ .bool want ∧ c undefA H = x)) := by
  obtain ⟨v, h1, h2⟩ := evK_inv hx (show evK q stk ts (fun a => boolAll a (fun b' => Bool.rec (motive := fun _ => XR) (Bool.rec (motive := fun _ => XR) (runO b call stk ts H c) (c undefA H) want) (Bool.rec (motive := fun _ => XR) (c undefA H) (runO b call stk ts H c) want) b') (c undefA H)) = x from h)
  refine ⟨v, h1, ?_⟩
  cases v
  case bool b' =>
    cases b' <;> cases want
    · exact .inl ⟨rfl, h2⟩
    · exact .inr ⟨by simp, h2⟩
    · exact .inr ⟨by simp, h2⟩
    · exact .inl ⟨rfl, h2⟩
  all_goals exact .inr ⟨by simp, h2⟩
theorem wanted_of {ops : Array Oper} {o : Oper} {j g : Nat} {want : Bool} {v : AV} (hg : o.guard = some (j, want)) (ht : guardT ops.toList j = some g) (r : Rel φ v (a.eval (.tmp g))) :
    Region.wanted o (yielded ops a.tmps) = true ↔ v = .bool want := by
  unfold Region.wanted
  rw [hg]
  simp only
  rw [yielded_eq ht]
  constructor
  · intro e
    split at e
    · rename_i b hb
      rw [hb] at r
      have := rel_bool r
      subst this
      have : b = want := by simpa using e
      rw [this]
    · simp at e
  · rintro rfl
    generalize a.eval (.tmp g) = cv at r
    cases r
    simp

/-- a region, from an operation on -/
theorem regK_ok (hx : x ≠ .fail) (hs : Sound P call) (hN : N ≤ 65536) {ops : Array Oper} {Q : Exit → Act → World → Prop} {k : VT → Hp → XR} : ∀ {rest : List Oper} {env : List (Nat × CA)} {n : Nat} {r : BRg}, regK P N mask ops.toList rest env n = some r →
    ∀ {stk : List AV} {ts : VT} {H : Hp} {a : Act} {w : World} {φ : Nat → Option (Blk × Nat)}, stk.length = n → runR r call stk ts H k = x → HR φ H w → Env N mask φ env stk ts a →
    (∀ ψ ts' H' a' w', k ts' H' = x → HR ψ H' w' → Ext φ H w ψ H' w' → RT N mask ψ ts' a' → N ≤ a'.tmps.size → a'.defers = a.defers → Q .normal a' w') → wpList P ops Q rest a w
  | [], env, n, r, hr, stk, ts, H, a, w, φ, hn, h, hH, he, hQ => by
    obtain rfl := Option.some.inj (show some (BRg.mk (endK (flushOf mask n env 0))) = some r from hr)
    subst hn
    obtain ⟨ts', h1, h2⟩ := flush_rt hx hN he (show flushK (flushOf mask stk.length env 0) stk ts ts (fun ts' => k ts' H) = x from h)
    exact hQ φ ts' H a w h1 hH (Ext.refl _ _ _) h2 he.size rfl
  | o :: rest, env, n, r, hr, stk, ts, H, a, w, φ, hn, h, hH, he, hQ => by
    subst hn
    -- behind the operation
    have next : ∀ {env' : List (Nat × CA)} {r' : BRg} {v : AV} {cv : Value} {H' : Hp} {ψ : Nat → Option (Blk × Nat)} {w' : World}, regK P N mask ops.toList rest env' (stk.length + 1) = some r' → runR r' call (v :: stk) ts H' k = x → Rel ψ v cv → HR ψ H' w' → Ext φ H w ψ H' w' →
        Env N mask ψ env' (v :: stk) ts (a.put o.dst cv) → wpList P ops Q rest (a.put o.dst cv) w' := by
      intro env' r' v cv H' ψ w' hr' h' rv hH' hE he'
      refine regK_ok hx hs hN hr' rfl h' hH' he' fun χ ts2 H2 a2 w2 k1 k2 k3 k4 k5 k6 => ?_
      exact hQ χ ts2 H2 a2 w2 k1 k2 (hE.trans k3) k4 k5 (k6.trans (put_defers _ _))
    have hdst : ∀ {ψ : Nat → Option (Blk × Nat)} {v : AV} {cv : Value} {d : Nat}, o.dst = some d → d < N → (∀ i b, φ i = some b → ψ i = some b) → Rel ψ v cv → Env N mask ψ ((d, .abs stk.length) :: env) (v :: stk) ts (a.put o.dst cv) := by
      intro ψ v cv d hd hlt hsub rv
      rw [hd]; exact (he.mono hsub).push hlt rv
    have hno : ∀ {ψ : Nat → Option (Blk × Nat)} {v : AV} {cv : Value}, o.dst = none → (∀ i b, φ i = some b → ψ i = some b) → Env N mask ψ env (v :: stk) ts (a.put o.dst cv) := by
      intro ψ v cv hd hsub
      rw [hd]; exact (he.mono hsub).push0
    -- an operation that runs
    have runs : ∀ {env' : List (Nat × CA)} {r' : BRg}, regK P N mask ops.toList rest env' (stk.length + 1) = some r' →
        (∀ {ψ : Nat → Option (Blk × Nat)} {v : AV} {cv : Value}, (∀ i b, φ i = some b → ψ i = some b) → Rel ψ v cv → Env N mask ψ env' (v :: stk) ts (a.put o.dst cv)) →
        runO (opK P (resO N mask env stk.length) o) call stk ts H (fun v H' => runR r' call (v :: stk) ts H' k) = x → o.wp P a w (wpList P ops Q rest) Q := by
      intro env' r' hr' hE h'
      obtain ⟨r0, h1, h2⟩ := opK_inv hx h'
      exact op_wp hs hH he.at h1 h2 fun v H' ψ cv w' g1 g2 g3 g4 => next hr' g1 g2 g3 g4 (hE g4.sub g2)
    have undef_ok : ∀ {env' : List (Nat × CA)} {r' : BRg}, regK P N mask ops.toList rest env' (stk.length + 1) = some r' →
        (∀ {ψ : Nat → Option (Blk × Nat)} {v : AV} {cv : Value}, (∀ i b, φ i = some b → ψ i = some b) → Rel ψ v cv → Env N mask ψ env' (v :: stk) ts (a.put o.dst cv)) →
        runR r' call (undefA :: stk) ts H k = x → wpList P ops Q rest (a.put o.dst undef) w := by
      intro env' r' hr' hE h'
      exact next hr' h' undef_rel hH (Ext.refl _ _ _) (hE (fun _ _ e => e) undef_rel)
    unfold regK at hr
    unfold wpList
    split at hr
    · rename_i hg
      have hw : Region.wanted o (yielded ops a.tmps) = true := by unfold Region.wanted; rw [hg]
      rw [if_pos hw]
      left
      -- an alias
      have al : ∀ {d : Nat} {y : Operand}, o.dst = some d → (execOp a.eval o).run P w = .ok (.value (a.eval y)) w → (match aliasO N mask env y with
          | some ca => cond (Nat.blt d N) (regK P N mask ops.toList rest ((d, ca) :: env) stk.length) none
          | none => none) = some r → o.wp P a w (wpList P ops Q rest) Q := by
        intro d y hd hrun hr
        split at hr
        · rename_i ca hca
          obtain ⟨h1, hr'⟩ := cond_some hr
          rw [blt_iff] at h1
          unfold Oper.wp
          rw [hrun]
          show wpList P ops Q rest (a.put o.dst (a.eval y)) w
          rw [hd]
          refine regK_ok hx hs hN hr' rfl h hH (he.alias h1 hca) fun χ ts2 H2 a2 w2 k1 k2 k3 k4 k5 k6 => ?_
          exact hQ χ ts2 H2 a2 w2 k1 k2 k3 k4 k5 (k6.trans (put_defers _ _))
        · cases hr
      split at hr
      · rename_i y d ho hd
        exact al hd (by unfold execOp; rw [ho]; rfl) hr
      · rename_i y d ho hd
        exact al hd (by unfold execOp; rw [ho]; rfl) hr
      · rename_i d hd _ _
        obtain ⟨h1, hr'⟩ := cond_some hr
        rw [blt_iff] at h1
        obtain ⟨r', h2, rfl⟩ := map_some hr'
        exact runs h2 (fun g1 g2 => hdst hd h1 g1 g2) h
      · rename_i hd
        obtain ⟨r', h2, rfl⟩ := map_some hr
        exact runs h2 (fun g1 g2 => hno hd g1) h
    · rename_i j want hg
      split at hr
      · cases hr
      · rename_i g ht
        have fin : ∀ {env' : List (Nat × CA)} {r' : BRg}, regK P N mask ops.toList rest env' (stk.length + 1) = some r' →
            (∀ {ψ : Nat → Option (Blk × Nat)} {v : AV} {cv : Value}, (∀ i b, φ i = some b → ψ i = some b) → Rel ψ v cv → Env N mask ψ env' (v :: stk) ts (a.put o.dst cv)) →
            runO (.mk (guardK (resT N mask env stk.length g) want (opK P (resO N mask env stk.length) o))) call stk ts H (fun v H' => runR r' call (v :: stk) ts H' k) = x →
            (if Region.wanted o (yielded ops a.tmps) then o.wp P a w (wpList P ops Q rest) Q ∨ (o.asks P a w ∧ LetsOut Q) else wpList P ops Q rest (a.put o.dst undef) w) := by
          intro env' r' hr' hE h'
          obtain ⟨v, h1, h2⟩ := guard_inv hx h'
          have hwant := wanted_of hg ht (he.rel g v h1)
          rcases h2 with ⟨e, h2⟩ | ⟨e, h2⟩
          · rw [if_pos (hwant.2 e)]; left; exact runs hr' hE h2
          · rw [if_neg (fun hc => e (hwant.1 hc))]; exact undef_ok hr' hE h2
        split at hr
        · rename_i d hd
          obtain ⟨h1, hr'⟩ := cond_some hr
          rw [blt_iff] at h1
          obtain ⟨r', h2, rfl⟩ := map_some hr'
          exact fin h2 (fun g1 g2 => hdst hd h1 g1 g2) h
        · rename_i hd
          obtain ⟨r', h2, rfl⟩ := map_some hr
          exact fin h2 (fun g1 g2 => hno hd g1) h
end
end Go.Fx

/-! Code. -/
namespace Go.Fx
set_option linter.unusedVariables false
set_option linter.unusedSimpArgs false

section
variable {P : Program} {N mask : Nat} {call : CallT}

structure Fin (N mask : Nat) (φ : Nat → Option (Blk × Nat)) (H : Hp) (w : World) (d : List Deferred) (ψ : Nat → Option (Blk × Nat)) (ts' : VT) (H' : Hp) (a' : Act) (w' : World) : Prop where
  hr : HR ψ H' w'
  ext : Ext φ H w ψ H' w'
  rt : RT N mask ψ ts' a'
  size : N ≤ a'.tmps.size
  defers : a'.defers = d

/-- where a code ends -/
def Post (N mask : Nat) (k : VT → Hp → XR) (x : XR) (φ : Nat → Option (Blk × Nat)) (H : Hp) (w : World) (d : List Deferred) : Exit → Act → World → Prop
  | .normal, a', w' => ∃ ψ ts' H', k ts' H' = x ∧ Fin N mask φ H w d ψ ts' H' a' w'
  | .exit id, a', w' => ∃ ψ ts' H', x = .exit id ts' H' ∧ Fin N mask φ H w d ψ ts' H' a' w'
  | .ret, a', w' => ∃ ψ ts' H', x = .ret ts' H' ∧ Fin N mask φ H w d ψ ts' H' a' w'
  | _, _, _ => False

theorem Fin.trans {φ ψ χ : Nat → Option (Blk × Nat)} {H H' H'' : Hp} {w w' w'' : World} {d : List Deferred} {ts' ts'' : VT} {a' a'' : Act} (h : Fin N mask φ H w d ψ ts' H' a' w') (k : Fin N mask ψ H' w' a'.defers χ ts'' H'' a'' w'') :
    Fin N mask φ H w d χ ts'' H'' a'' w'' := ⟨k.hr, h.ext.trans k.ext, k.rt, k.size, k.defers.trans h.defers⟩
theorem Post.trans {φ ψ : Nat → Option (Blk × Nat)} {H H' : Hp} {w w' : World} {d : List Deferred} {ts' : VT} {a' : Act} {k : VT → Hp → XR} {x : XR} (h : Fin N mask φ H w d ψ ts' H' a' w') :
    ∀ e a'' w'', Post N mask k x ψ H' w' a'.defers e a'' w'' → Post N mask k x φ H w d e a'' w'' := by
  intro e a'' w'' hp
  cases e with
  | normal => obtain ⟨χ, t, G, h1, h2⟩ := hp; exact ⟨χ, t, G, h1, h.trans h2⟩
  | exit id => obtain ⟨χ, t, G, h1, h2⟩ := hp; exact ⟨χ, t, G, h1, h.trans h2⟩
  | ret => obtain ⟨χ, t, G, h1, h2⟩ := hp; exact ⟨χ, t, G, h1, h.trans h2⟩
  | _ => exact hp

/-- regions that draw their order -/
def DrawOk (P : Program) (N mask : Nat) : Prop := ∀ {call : CallT} {x : XR} {id : Nat} {ops : Array Oper} {r : BX} {ts : VT} {H : Hp} {k : VT → Hp → XR} {a : Act} {w : World} {φ : Nat → Option (Blk × Nat)} {Q : Exit → Act → World → Prop}, x ≠ .fail → Sound P call →
  drawK P N mask ops.toList = some r → runX r call ts H k = x → HR φ H w → RT N mask φ ts a → N ≤ a.tmps.size →
  (∀ ψ ts' H' a' w', k ts' H' = x → Fin N mask φ H w a.defers ψ ts' H' a' w' → Q .normal a' w') → (Code.region id ops true).wp P Q a w

theorem least {p : Nat → Prop} (h : ∃ n, p n) : ∃ n, p n ∧ ∀ m, p m → n ≤ m := by
  obtain ⟨n, hn⟩ := h
  induction n using Nat.strongRecOn with
  | _ n ih =>
    by_cases hc : ∃ m, m < n ∧ p m
    · obtain ⟨m, h1, h2⟩ := hc; exact ih m h1 h2
    · refine ⟨n, hn, fun m hm => ?_⟩
      rcases Nat.lt_or_ge m n with h | h
      · exact absurd ⟨m, h, hm⟩ hc
      · exact h

/-- a loop: by its rounds -/
theorem wp_rounds {c : Code} {Q : Exit → Act → World → Prop} (J : Nat → Act → World → Prop) (h0 : ∀ a w, ¬ J 0 a w) (round : ∀ n a w, J (n + 1) a w → c.wp P (Exit.then (J n) Q) a w) {n : Nat} {a : Act} {w : World} (h : J n a w) :
    (Code.loop c).wp P Q a w := by
  classical
  have hl : ∀ a w, ∃ m, (∃ n, J n a w) → J m a w ∧ ∀ k, J k a w → m ≤ k := by
    intro a w
    by_cases hc : ∃ n, J n a w
    · obtain ⟨m, h1, h2⟩ := least hc; exact ⟨m, fun _ => ⟨h1, h2⟩⟩
    · exact ⟨0, fun h => absurd h hc⟩
  refine wp_loop (I := fun a w => ∃ n, J n a w) (μ := fun a w => Classical.choose (hl a w)) ⟨n, h⟩ fun a w hJ => ?_
  have hm := Classical.choose_spec (hl a w) hJ
  generalize hmu : Classical.choose (hl a w) = m at hm
  cases m with
  | zero => exact absurd hm.1 (h0 a w)
  | succ m =>
    refine wp_mono (round m a w hm.1) fun e a' w' he => ?_
    cases e with
    | normal =>
      refine ⟨⟨m, he⟩, ?_⟩
      have := (Classical.choose_spec (hl a' w') ⟨m, he⟩).2 m he
      show Classical.choose (hl a' w') < m + 1
      omega
    | _ => exact he

theorem run_loop (b : BX) (ts : VT) (H : Hp) (k : VT → Hp → XR) (n : Nat) (hn : FUEL = n) : runX (.mk (loopX b)) call ts H k = loopR b call n ts H := by
  subst hn; rfl
theorem comp_loop (c : Code) : compC P N mask (.loop c) = .mk (loopX (compC P N mask c)) := by simp only [compC]

theorem compC_ok (hD : DrawOk P N mask) (hs : Sound P call) (hN : N ≤ 65536) : ∀ (c : Code) {ts : VT} {H : Hp} {k : VT → Hp → XR} {x : XR} {a : Act} {w : World} {φ : Nat → Option (Blk × Nat)}, x ≠ .fail → runX (compC P N mask c) call ts H k = x → HR φ H w → RT N mask φ ts a → N ≤ a.tmps.size →
    c.wp P (Post N mask k x φ H w a.defers) a w := by
  intro c
  induction c with
  | skip =>
    intro ts H k x a w φ hx h hH hR hz
    exact wp_skip ⟨φ, ts, H, h, hH, Ext.refl _ _ _, hR, hz, rfl⟩
  | region id ops draw =>
    intro ts H k x a w φ hx h hH hR hz
    cases draw with
    | false =>
      cases hr : regK P N mask ops.toList ops.toList [] 0 with
      | none => simp only [compC, hr] at h; exact absurd h.symm hx
      | some r =>
        simp only [compC, hr] at h
        exact wp_region_list (regK_ok hx hs hN hr rfl (show runR r call [] ts H k = x from h) hH (Env.start hR hz) fun ψ ts' H' a' w' k1 k2 k3 k4 k5 k6 => ⟨ψ, ts', H', k1, k2, k3, k4, k5, k6⟩)
    | true =>
      cases hr : drawK P N mask ops.toList with
      | none => simp only [compC, hr] at h; exact absurd h.symm hx
      | some r =>
        simp only [compC, hr] at h
        exact hD hx hs hr h hH hR hz fun ψ ts' H' a' w' k1 k2 => ⟨ψ, ts', H', k1, k2⟩
  | seq c d ihc ihd =>
    intro ts H k x a w φ hx h hH hR hz
    refine wp_seq (wp_mono (ihc hx (show runX (compC P N mask c) call ts H (fun ts' H' => runX (compC P N mask d) call ts' H' k) = x from h) hH hR hz) fun e a' w' he => ?_)
    cases e with
    | normal =>
      obtain ⟨ψ, ts', H', h1, h2⟩ := he
      exact wp_mono (ihd hx h1 h2.hr h2.rt h2.size) (Post.trans h2)
    | exit id => exact he
    | ret => exact he
    | _ => exact he.elim
  | cond q c d ihc ihd =>
    intro ts H k x a w φ hx h hH hR hz
    obtain ⟨v, h1, h2⟩ := evK_inv hx (show evK (resO N mask [] 0 q) [] ts (fun v => asBool v fun t => Bool.rec (motive := fun _ => XR) (runX (compC P N mask d) call ts H k) (runX (compC P N mask c) call ts H k) t) = x from h)
    obtain ⟨b, rfl, h3⟩ := asBool_inv hx h2
    have r := (Env.start hR hz).at q _ h1
    have hv : a.eval q = .bool b := by
      generalize a.eval q = cv at r
      cases r; rfl
    cases b with
    | true => exact wp_cond_true hv (ihc hx h3 hH hR hz)
    | false => exact wp_cond_false hv (ihd hx h3 hH hR hz)
  | block id c ih =>
    intro ts H k x a w φ hx h hH hR hz
    have h : blockR id (runX (compC P N mask c) call ts H .norm) k = x := h
    have hy : runX (compC P N mask c) call ts H .norm ≠ .fail := by
      intro e; rw [e] at h; exact hx h.symm
    refine wp_block (wp_mono (ih hy rfl hH hR hz) fun e a' w' he => ?_)
    cases e with
    | normal =>
      obtain ⟨ψ, ts', H', h1, h2⟩ := he
      rw [← h1] at h
      exact ⟨ψ, ts', H', h, h2⟩
    | exit i =>
      obtain ⟨ψ, ts', H', h1, h2⟩ := he
      rw [h1] at h
      have h : (Bool.rec (motive := fun _ => XR) (.exit i ts' H') (k ts' H') (Nat.beq i id) : XR) = x := h
      show if i = id then _ else _
      by_cases hi : i = id
      · rw [if_pos hi]
        rw [(beq_iff _ _).2 hi] at h
        exact ⟨ψ, ts', H', h, h2⟩
      · rw [if_neg hi]
        have : Nat.beq i id = false := by cases hb : Nat.beq i id with
          | false => rfl
          | true => rw [beq_iff] at hb; exact absurd hb hi
        rw [this] at h
        exact ⟨ψ, ts', H', h.symm, h2⟩
    | ret =>
      obtain ⟨ψ, ts', H', h1, h2⟩ := he
      rw [h1] at h
      exact ⟨ψ, ts', H', h.symm, h2⟩
    | _ => exact he.elim
  | loop c ih =>
    intro ts H k x a w φ hx h hH hR hz
    obtain ⟨n, hn⟩ : ∃ n, FUEL = n := ⟨_, rfl⟩
    rw [comp_loop, run_loop _ _ _ _ n hn] at h
    clear hn
    refine wp_rounds (J := fun n a' w' => ∃ ψ ts' H', loopR (compC P N mask c) call n ts' H' = x ∧ Fin N mask φ H w a.defers ψ ts' H' a' w') (n := n) ?_ ?_ ⟨φ, ts, H, h, hH, Ext.refl _ _ _, hR, hz, rfl⟩
    · rintro a' w' ⟨ψ, ts', H', h1, _⟩
      exact hx h1.symm
    · rintro n a' w' ⟨ψ, ts', H', h1, h2⟩
      refine wp_mono (ih hx (show runX (compC P N mask c) call ts' H' (loopR (compC P N mask c) call n) = x from h1) h2.hr h2.rt h2.size) fun e a'' w'' he => ?_
      have he := Post.trans h2 e a'' w'' he
      cases e with
      | normal => exact he
      | exit id => exact he
      | ret => exact he
      | _ => exact he.elim
  | exit id =>
    intro ts H k x a w φ hx h hH hR hz
    exact wp_exit ⟨φ, ts, H, (show XR.exit id ts H = x from h).symm, hH, Ext.refl _ _ _, hR, hz, rfl⟩
  | ret =>
    intro ts H k x a w φ hx h hH hR hz
    exact wp_ret ⟨φ, ts, H, (show XR.ret ts H = x from h).symm, hH, Ext.refl _ _ _, hR, hz, rfl⟩
  | _ =>
    intro ts H k x a w φ hx h hH hR hz
    exact absurd (show XR.fail = x from h).symm hx
end
end Go.Fx

/-! Calls. -/
namespace Go.Fx
set_option linter.unusedVariables false
set_option linter.unusedSimpArgs false

theorem posOf_inj' : ∀ (n k t : Nat), t < 2 ^ n - 1 → posOf n k = posOf n t → k = t
  | 0, k, t, h, _ => by simp at h
  | n + 1, 0, 0, _, _ => rfl
  | n + 1, 0, t + 1, _, e => by
    rw [posOf_succ] at e
    have : posOf (n + 1) 0 = .h := rfl
    rw [this] at e; split at e <;> cases e
  | n + 1, k + 1, 0, _, e => by
    rw [posOf_succ] at e
    have : posOf (n + 1) 0 = .h := rfl
    rw [this] at e; split at e <;> cases e
  | n + 1, k + 1, t + 1, h, e => by
    rw [posOf_succ, posOf_succ] at e
    rw [Nat.pow_succ] at h
    split at e <;> split at e
    · have := posOf_inj' n _ _ (by omega) (Pos.o.inj e); omega
    · cases e
    · cases e
    · have := posOf_inj' n _ _ (by omega) (Pos.i.inj e); omega

theorem argsK_get : ∀ {l : List AV} {i : Nat} {ts : VT} {t : Nat} {v : AV}, t < 65536 → getP (posOf 24 t) (argsK l i ts) = some v → (i ≤ t ∧ l[t - i]? = some v) ∨ getP (posOf 24 t) ts = some v
  | [], i, ts, t, v, _, h => .inr h
  | a :: l, i, ts, t, v, ht, h => by
    rcases argsK_get (l := l) ht (show getP (posOf 24 t) (argsK l (i + 1) (setP (posOf 24 i) (some a) ts)) = some v from h) with ⟨h1, h2⟩ | h1
    · refine .inl ⟨by omega, ?_⟩
      rw [show t - i = (t - (i + 1)) + 1 by omega, List.getElem?_cons_succ]; exact h2
    · by_cases hp : posOf 24 i = posOf 24 t
      · have := posOf_inj' 24 i t (by omega) hp
        subst this
        rw [getP_setP_self] at h1
        exact .inl ⟨Nat.le_refl _, by rw [Nat.sub_self]; exact h1⟩
      · rw [getP_setP_ne _ _ _ _ hp] at h1; exact .inr h1

section
variable {P : Program} {φ : Nat → Option (Blk × Nat)} {H : Hp} {w : World}

theorem args_rt {N mask : Nat} {l : List AV} {vs : List Value} {n : Nat} (hN : N ≤ 65536) (r : RelL φ l vs) : RT N mask φ (argsK l 0 .E) { tmps := vs.toArray ++ Array.replicate n undef, defers := [] } := by
  intro t v e
  obtain ⟨h1, _, h2⟩ := varT_some e
  rcases argsK_get (by omega) h2 with ⟨_, h3⟩ | h3
  · obtain ⟨cv, h4, h5⟩ := r.get h3
    have hlt := (List.getElem?_eq_some_iff.1 h4).1
    rw [Nat.sub_zero] at h4 hlt
    show Rel φ v ((vs.toArray ++ Array.replicate n undef).getD t undef)
    have : (vs.toArray ++ Array.replicate n undef)[t]? = some cv := by
      rw [Array.getElem?_append_left (by simpa using hlt)]; simpa using h4
    rw [Array.getD_eq_getD_getElem?, this]; exact h5
  · rw [getP_E] at h3; cases h3

theorem slotT_some {N mask t : Nat} {ts : VT} {v : AV} {a : Act} (h : slotT N mask t ts = some v) (hR : RT N mask φ ts a) : Rel φ v (a.tmps.getD t undef) := by
  refine hR t v ?_
  unfold slotT at h
  unfold varT
  cases hc : (Nat.blt t N && Nat.testBit mask t) with
  | false => rw [hc] at h; cases h
  | true => rw [hc] at h; exact h

theorem results_ok {N mask : Nat} {ts : VT} {a : Act} (hH : HR φ H w) (hR : RT N mask φ ts a) : ∀ {rs : List ResultVar} {l : List AV}, resultsK P N mask ts H rs = some l →
    ∃ vs, (rs.mapM (m := Sem) fun | .tmp t => pure (a.tmps.getD t undef) | .cell b t => do loadVar t (← asAddr (a.tmps.getD b undef))).run P w = .ok vs w ∧ RelL φ l vs
  | [], l, h => by obtain rfl := Option.some.inj (show some [] = some l from h); exact ⟨[], rfl, .nil⟩
  | .tmp t :: rs, l, h => by
    obtain ⟨v, h1, h2⟩ := bind_some (show (slotT N mask t ts).bind _ = some l from h)
    obtain ⟨m, h3, rfl⟩ := map_some h2
    obtain ⟨vs, h4, h5⟩ := results_ok hH hR h3
    refine ⟨a.tmps.getD t undef :: vs, ?_, .cons (slotT_some h1 hR) h5⟩
    rw [List.mapM_cons]
    simp only [Sem.run_bind, Sem.run_pure, Result.andThen_ok, h4]
  | .cell b t :: rs, l, h => by
    obtain ⟨p, h1, h2⟩ := bind_some (show (slotT N mask b ts).bind _ = some l from h)
    obtain ⟨v, h6, h7⟩ := bind_some h2
    obtain ⟨m, h3, rfl⟩ := map_some h7
    obtain ⟨vs, h4, h5⟩ := results_ok hH hR h3
    have rp := slotT_some h1 hR
    have hv : ∃ cv, (do loadVar t (← asAddr (a.tmps.getD b undef)) : Sem Value).run P w = .ok cv w ∧ Rel φ v cv := by
      have key : ∀ {cv : Value}, (Instr.loadAt t (a.tmps.getD b undef)).run P w = .ok cv w → (∃ c, a.tmps.getD b undef = .pointer (some c)) → (do loadVar t (← asAddr (a.tmps.getD b undef)) : Sem Value).run P w = .ok cv w := by
        rintro cv e ⟨c, hc⟩
        rw [hc] at e ⊢
        rw [← e]; unfold Instr.loadAt; simp [asAddr, Instr.sureAddr]
      split at h6
      · rename_i hg
        obtain ⟨cv, g1, g2⟩ := load1_ok hH hg h6 rp
        refine ⟨cv, key g1 ?_, g2⟩
        unfold loadF1 at h6
        split at h6
        · generalize a.tmps.getD b undef = c at rp; cases rp; exact ⟨_, rfl⟩
        · cases h6
      · rename_i n hg hn
        obtain ⟨cv, g1, g2⟩ := loadN_ok hH hg hn h6 rp
        refine ⟨cv, key g1 ?_, g2⟩
        unfold loadFN at h6
        split at h6
        · generalize a.tmps.getD b undef = c at rp; cases rp; exact ⟨_, rfl⟩
        · cases h6
      · cases h6
    obtain ⟨cv, g1, g2⟩ := hv
    refine ⟨cv :: vs, ?_, .cons g2 h5⟩
    rw [List.mapM_cons]
    simp only [Sem.run_bind] at g1
    simp only [Sem.run_bind, g1, Result.andThen_ok, h4, Sem.run_pure]

theorem oneOf_rel {l : List AV} {vs : List Value} (r : RelL φ l vs) : Rel φ (oneOf l) (if h : vs.toArray.size = 1 then vs.toArray[0] else .tuple vs.toArray) := by
  cases r with
  | nil => exact .tuple .nil
  | cons r1 r2 =>
    cases r2 with
    | nil => exact r1
    | cons r3 r4 =>
      rw [dif_neg (by simp)]
      exact .tuple (RelL.chain (.cons r1 (.cons r3 r4)))

theorem ret_ok {N mask : Nat} {ts : VT} {a : Act} {fn : Func} {l : List AV} (hH : HR φ H w) (hR : RT N mask φ ts a) (h : resultsK P N mask ts H fn.results.toList = some l) : ∃ cv, (results fn a.tmps).run P w = .ok cv w ∧ Rel φ (oneOf l) cv := by
  obtain ⟨vs, h1, h2⟩ := results_ok hH hR h
  refine ⟨_, ?_, oneOf_rel h2⟩
  unfold results
  rw [Array.mapM_eq_mapM_toList]
  simp only [Sem.run_bind, Sem.run_map, Sem.run_pure]
  have key : ∀ X : Result (List Value), X = .ok vs w → ((X.andThen fun a w' => Result.ok a.toArray w').andThen fun (a : Array Value) w' => Result.ok (if h : a.size = 1 then a[0] else Value.tuple a) w') = .ok (if h : vs.toArray.size = 1 then vs.toArray[0] else .tuple vs.toArray) w := by
    rintro X rfl; rfl
  exact key _ h1

/-- functions that are summed up -/
def ExtOk (P : Program) (ext : Nat → Option (List AV → Hp → Option (Prod AV Hp))) : Prop :=
  ∀ f g, ext f = some g → ∀ args H v H', g args H = some (v, H') → ∀ φ w vs, HR φ H w → RelL φ args vs → Came P φ H w f vs v H'

theorem callF_zero (ext : Nat → Option (List AV → Hp → Option (Prod AV Hp))) (f : Nat) (args : List AV) (H : Hp) : callF P ext 0 f args H = none := rfl
theorem callF_succ (ext : Nat → Option (List AV → Hp → Option (Prod AV Hp))) (n f : Nat) (args : List AV) (H : Hp) : callF P ext (n + 1) f args H = match ext f with
    | some g => g args H
    | none => match fnF P f with
      | some fn => finK P fn (runX (codeK P fn) (callF P ext n) (argsK args 0 .E) H .norm)
      | none => none := by
  show Option.rec (motive := fun _ => Option (Prod AV Hp)) (Option.rec (motive := fun _ => Option (Prod AV Hp)) none (fun fn => finK P fn (runX (codeK P fn) (callF P ext n) (argsK args 0 .E) H .norm)) (fnF P f)) (fun g => g args H) (ext f) = _
  cases ext f with
  | some g => rfl
  | none => cases fnF P f <;> rfl

theorem callF_sound {ext : Nat → Option (List AV → Hp → Option (Prod AV Hp))} (he : ExtOk P ext) (hD : ∀ N mask, N ≤ 65536 → DrawOk P N mask) (hname : ∀ (f : FuncId) (fn : Func), P.funcs[f]? = some fn → fn.name ≠ "runtime.NumGoroutine") : ∀ n, Sound P (callF P ext n)
  | 0, f, args, H, v, H', h => by rw [callF_zero] at h; cases h
  | n + 1, f, args, H, v, H', h => by
    intro φ w vs hH hr
    rw [callF_succ] at h
    cases hx : ext f with
    | some g => rw [hx] at h; exact he f g hx _ _ _ _ h φ w vs hH hr
    | none =>
      rw [hx] at h
      simp only at h
      cases hf : fnF P f with
      | none => rw [hf] at h; cases h
      | some fn =>
        rw [hf] at h
        simp only at h
        rw [fnF_eq] at hf
        cases hb : fn.body with
        | none =>
          have : codeK P fn = .mk badX := by unfold codeK; rw [hb]
          rw [this] at h; cases h
        | some c =>
          cases hN : Nat.ble fn.ntmps 65536 with
          | false =>
            have : codeK P fn = .mk badX := by unfold codeK; rw [hb]; simp only [hN, cond_false]
            rw [this] at h; cases h
          | true =>
            have hcode : codeK P fn = compC P fn.ntmps (maskF fn) c := by unfold codeK; rw [hb]; simp only [hN, cond_true]
            rw [hcode] at h
            rw [ble_iff] at hN
            right
            constructor
            · simp [callFunc, hf, hname f fn hf, hb]
            · refine calls_of_wp hf hb ?_
              generalize hy : runX (compC P fn.ntmps (maskF fn) c) (callF P ext n) (argsK args 0 .E) H .norm = x at h
              have hxf : x ≠ .fail := by rintro rfl; cases h
              refine wp_mono (compC_ok (hD _ _ hN) (callF_sound he hD hname n) hN c hxf hy hH (args_rt hN hr) (by simp; omega)) fun e a' w' hp => ?_
              cases e with
              | normal =>
                obtain ⟨ψ, ts', G, h1, h2⟩ := hp
                rw [← h1] at h
                obtain ⟨l, h3, h4⟩ := map_some (show (resultsK P fn.ntmps (maskF fn) ts' G fn.results.toList).map (fun l => (oneOf l, G)) = some (v, H') from h)
                obtain ⟨rfl, rfl⟩ := Prod.mk.inj h4
                obtain ⟨cv, h5, h6⟩ := ret_ok h2.hr h2.rt h3
                exact ⟨h2.defers, cv, h5, cv, ψ, rfl, h6, h2.hr, h2.ext⟩
              | ret =>
                obtain ⟨ψ, ts', G, h1, h2⟩ := hp
                rw [h1] at h
                obtain ⟨l, h3, h4⟩ := map_some (show (resultsK P fn.ntmps (maskF fn) ts' G fn.results.toList).map (fun l => (oneOf l, G)) = some (v, H') from h)
                obtain ⟨rfl, rfl⟩ := Prod.mk.inj h4
                obtain ⟨cv, h5, h6⟩ := ret_ok h2.hr h2.rt h3
                exact ⟨h2.defers, cv, h5, cv, ψ, rfl, h6, h2.hr, h2.ext⟩
              | exit id =>
                obtain ⟨ψ, ts', G, h1, h2⟩ := hp
                rw [h1] at h; cases h
              | _ => exact hp.elim
end
end Go.Fx

/-! Regions that draw their order: plans. -/
namespace Go.Fx
set_option linter.unusedVariables false
set_option linter.unusedSimpArgs false

/-! what lies ahead -/
theorem bits_bitOr {m t u : Nat} : Nat.testBit (bitOr m t) u = true ↔ Nat.testBit m u = true ∨ u = t := by
  rw [testBit_bitOr, Bool.or_eq_true, decide_eq_true_eq]
theorem bits_zero (u : Nat) : Nat.testBit 0 u = false := by simp
theorem subM_iff {a b : Nat} : subM a b = true ↔ ∀ u, Nat.testBit a u = true → Nat.testBit b u = true := by
  unfold subM
  rw [beq_iff]
  show a &&& b = a ↔ _
  constructor
  · intro h u hu
    rw [← h, Nat.testBit_and, Bool.and_eq_true] at hu; exact hu.2
  · intro h
    apply Nat.eq_of_testBit_eq
    intro u
    rw [Nat.testBit_and]
    cases hu : Nat.testBit a u with
    | false => rfl
    | true => rw [h u hu]; rfl
theorem ancOf_spec {ancs : List Nat} : ∀ {js : List Nat} {m : Nat}, ancOf ancs js = some m → (∀ j ∈ js, j < ancs.length) ∧ ∀ u, Nat.testBit m u = true → ∃ j ∈ js, u = j ∨ ∃ mj, ancs[j]? = some mj ∧ Nat.testBit mj u = true
  | [], m, h => by
    obtain rfl := Option.some.inj (show some 0 = some m from h)
    exact ⟨nofun, fun u hu => by rw [bits_zero] at hu; cases hu⟩
  | j :: js, m, h => by
    unfold ancOf at h
    split at h
    · rename_i a m' h1 h2
      obtain rfl := Option.some.inj h
      obtain ⟨g1, g2⟩ := ancOf_spec h2
      have hj := (List.getElem?_eq_some_iff.1 h1).1
      refine ⟨fun i hi => ?_, fun u hu => ?_⟩
      · rcases List.mem_cons.1 hi with rfl | hi
        · exact hj
        · exact g1 i hi
      · have hu : Nat.testBit (bitOr a j ||| m') u = true := hu
        rw [Nat.testBit_or, Bool.or_eq_true] at hu
        rcases hu with hu | hu
        · rcases bits_bitOr.1 hu with hu | hu
          · exact ⟨j, List.mem_cons_self .., .inr ⟨a, h1, hu⟩⟩
          · exact ⟨j, List.mem_cons_self .., .inl hu⟩
        · obtain ⟨i, hi, hh⟩ := g2 u hu
          exact ⟨i, List.mem_cons_of_mem _ hi, hh⟩
    · cases h
/-- the table of what lies ahead -/
theorem ancsOf_spec : ∀ {l : List Oper} {acc ancs : List Nat}, ancsOf l acc = some ancs → (∃ t, ancs = acc ++ t ∧ t.length = l.length) ∧ ∀ i o, l[i]? = some o → ∃ m, ancs[acc.length + i]? = some m ∧ (∀ j ∈ predsO o.after.toList, j < acc.length + i) ∧
      ∀ u, Nat.testBit m u = true → ∃ j ∈ predsO o.after.toList, u = j ∨ ∃ mj, ancs[j]? = some mj ∧ Nat.testBit mj u = true
  | [], acc, ancs, h => by
    obtain rfl := Option.some.inj (show some acc = some ancs from h)
    exact ⟨⟨[], by simp, rfl⟩, fun i o hi => by simp at hi⟩
  | o :: l, acc, ancs, h => by
    unfold ancsOf at h
    split at h
    · rename_i a ha
      obtain ⟨⟨t, ht, htl⟩, h2⟩ := ancsOf_spec h
      obtain ⟨g1, g2⟩ := ancOf_spec ha
      refine ⟨⟨a :: t, by rw [ht]; simp, by simp [htl]⟩, fun i o' hi => ?_⟩
      cases i with
      | zero =>
        simp at hi; subst hi
        refine ⟨a, by rw [ht]; simp, fun j hj => by have := g1 j hj; omega, fun u hu => ?_⟩
        obtain ⟨j, hj, hh⟩ := g2 u hu
        refine ⟨j, hj, hh.imp id fun ⟨mj, k1, k2⟩ => ⟨mj, ?_, k2⟩⟩
        rw [ht, List.append_assoc, List.getElem?_append_left (g1 j hj)]; exact k1
      | succ i =>
        simp at hi
        obtain ⟨m, k1, k2, k3⟩ := h2 i o' hi
        simp only [List.length_append, List.length_cons, List.length_nil] at k1 k2
        exact ⟨m, by rw [show acc.length + (i + 1) = acc.length + (0 + 1) + i by omega]; exact k1, fun j hj => by have := k2 j hj; omega, k3⟩
    · cases h

theorem predsO_mem {es : List Edge} {j : Nat} : j ∈ predsO es ↔ ∃ e ∈ es, Region.binds .any e = true ∧ e.on = j := by
  induction es with
  | nil => simp [predsO]
  | cons e l ih =>
    unfold predsO
    cases h : Region.binds .any e with
    | true =>
      rw [cond_true, List.mem_cons, ih]
      constructor
      · rintro (rfl | ⟨e', h1, h2, h3⟩)
        · exact ⟨e, List.mem_cons_self .., h, rfl⟩
        · exact ⟨e', List.mem_cons_of_mem _ h1, h2, h3⟩
      · rintro ⟨e', h1, h2, h3⟩
        rcases List.mem_cons.1 h1 with rfl | h1
        · exact .inl h3.symm
        · exact .inr ⟨e', h1, h2, h3⟩
    | false =>
      rw [cond_false, ih]
      constructor
      · rintro ⟨e', h1, h2, h3⟩; exact ⟨e', List.mem_cons_of_mem _ h1, h2, h3⟩
      · rintro ⟨e', h1, h2, h3⟩
        rcases List.mem_cons.1 h1 with rfl | h1
        · rw [h] at h2; cases h2
        · exact ⟨e', h1, h2, h3⟩

/-- what is done together with all that lies ahead of it -/
def Closed (l : List Oper) (D : Nat → Prop) : Prop := ∀ i o, D i → l[i]? = some o → ∀ j ∈ predsO o.after.toList, D j
theorem anc_sub {l : List Oper} {ancs : List Nat} (h : ancsOf l [] = some ancs) {D : Nat → Prop} (hc : Closed l D) : ∀ (i : Nat) (o : Oper) (m : Nat), l[i]? = some o → ancs[i]? = some m → (∀ j ∈ predsO o.after.toList, D j) → ∀ u, Nat.testBit m u = true → D u := by
  intro i
  induction i using Nat.strongRecOn with
  | _ i ih =>
    intro o m ho hm hp u hu
    obtain ⟨⟨t, ht, htl⟩, h2⟩ := ancsOf_spec h
    obtain ⟨m', k1, k2, k3⟩ := h2 i o ho
    simp only [List.length_nil, Nat.zero_add] at k1 k2
    rw [hm] at k1; obtain rfl := Option.some.inj k1
    obtain ⟨j, hj, hh⟩ := k3 u hu
    rcases hh with rfl | ⟨mj, g1, g2⟩
    · exact hp _ hj
    · have hlt := (List.getElem?_eq_some_iff.1 g1).1
      simp only [List.nil_append] at ht; subst ht
      have hjl : j < l.length := by omega
      exact ih j (k2 j hj) l[j] mj (by simp [hjl]) g1 (fun j' hj' => hc j l[j] (hp j hj) (by simp [hjl]) j' hj') u g2

/-! writers -/
theorem writersOf_mem : ∀ {l : List Oper} {i d j : Nat}, (d, j) ∈ writersOf l i → i ≤ j ∧ ∃ o, l[j - i]? = some o ∧ o.dst = some d
  | [], i, d, j, h => by cases h
  | o :: l, i, d, j, h => by
    unfold writersOf at h
    split at h
    · rename_i d' hd
      rcases List.mem_cons.1 h with e | e
      · obtain ⟨rfl, rfl⟩ := Prod.mk.inj e
        exact ⟨Nat.le_refl _, o, by simp, hd⟩
      · obtain ⟨h1, o', h2, h3⟩ := writersOf_mem e
        exact ⟨by omega, o', by rw [show j - i = (j - (i + 1)) + 1 by omega]; exact h2, h3⟩
    · obtain ⟨h1, o', h2, h3⟩ := writersOf_mem h
      exact ⟨by omega, o', by rw [show j - i = (j - (i + 1)) + 1 by omega]; exact h2, h3⟩
theorem mem_writersOf : ∀ {l : List Oper} {i j d : Nat} {o : Oper}, l[j]? = some o → o.dst = some d → (d, i + j) ∈ writersOf l i
  | [], i, j, d, o, h, hd => by simp at h
  | o' :: l, i, j, d, o, h, hd => by
    unfold writersOf
    cases j with
    | zero => simp at h; subst h; rw [hd]; exact List.mem_cons_self ..
    | succ j =>
      simp at h
      have := mem_writersOf (i := i + 1) h hd
      rw [show i + 1 + j = i + (j + 1) by omega] at this
      split
      · exact List.mem_cons_of_mem _ this
      · exact this
theorem lookW_mem {t j : Nat} : ∀ {l : List (Nat × Nat)}, lookW t l = some j → (t, j) ∈ l
  | [], h => by cases h
  | e :: l, h => by
    unfold lookW at h
    cases hb : Nat.beq e.1 t with
    | true => rw [hb, cond_true] at h; rw [beq_iff] at hb; obtain rfl := Option.some.inj h; subst hb; exact List.mem_cons_self ..
    | false => rw [hb, cond_false] at h; exact List.mem_cons_of_mem _ (lookW_mem h)
theorem lookW_none {t : Nat} : ∀ {l : List (Nat × Nat)}, lookW t l = none → ∀ j, (t, j) ∉ l
  | [], h, j, hm => by cases hm
  | e :: l, h, j, hm => by
    unfold lookW at h
    cases hb : Nat.beq e.1 t with
    | true => rw [hb, cond_true] at h; cases h
    | false =>
      rw [hb, cond_false] at h
      rcases List.mem_cons.1 hm with rfl | hm
      · rw [(beq_iff _ _).2 rfl] at hb; cases hb
      · exact lookW_none h j hm
/-- each slot has one writer -/
theorem onceW_spec {N : Nat} : ∀ {l : List (Nat × Nat)}, onceW N l = true → (∀ d j, (d, j) ∈ l → d < N) ∧ ∀ d i j, (d, i) ∈ l → (d, j) ∈ l → i = j
  | [], h => ⟨nofun, nofun⟩
  | e :: l, h => by
    unfold onceW at h
    rw [Bool.and_eq_true, Bool.and_eq_true, blt_iff] at h
    obtain ⟨⟨h1, h2⟩, h3⟩ := h
    obtain ⟨g1, g2⟩ := onceW_spec h3
    have hn : lookW e.1 l = none := by
      cases hl : lookW e.1 l with
      | none => rfl
      | some _ => rw [hl] at h2; cases h2
    refine ⟨fun d j hm => ?_, fun d i j hi hj => ?_⟩
    · rcases List.mem_cons.1 hm with rfl | hm
      · exact h1
      · exact g1 d j hm
    · rcases List.mem_cons.1 hi with hi' | hi' <;> rcases List.mem_cons.1 hj with hj' | hj'
      · rw [← hi'] at hj'; exact (Prod.mk.inj hj').2.symm
      · rw [← hi'] at hn; exact absurd hj' (lookW_none hn j)
      · rw [← hj'] at hn; exact absurd hi' (lookW_none hn i)
      · exact g2 d i j hi' hj'

theorem aeq_eq : ∀ {a b : AV}, aeq a b = true → a = b := by
  intro a
  induction a with
  | nil => intro b h; cases b <;> first | rfl | (simp [aeq] at h)
  | cons a c iha ihc =>
    intro b h
    cases b <;> first | (simp [aeq] at h; done) | skip
    simp only [aeq, Bool.and_eq_true] at h
    rw [iha h.1, ihc h.2]
  | tuple l ih => intro b h; cases b <;> first | (simp [aeq] at h; done) | (rw [ih h])
  | agg l ih => intro b h; cases b <;> first | (simp [aeq] at h; done) | (rw [ih h])
  | func f a c iha ihc =>
    intro b h
    cases b <;> first | (cases f <;> simp [aeq] at h; done) | skip
    rename_i g a' c'
    cases f <;> cases g <;> first | (simp [aeq] at h; done) | skip
    simp only [aeq, Bool.and_eq_true, beq_iff] at h
    obtain ⟨rfl, h1, h2⟩ := h
    rw [iha h1, ihc h2]
  | iface t a ih =>
    intro b h
    cases b <;> first | (simp [aeq] at h; done) | skip
    simp only [aeq, Bool.and_eq_true, beq_iff] at h
    obtain ⟨rfl, h1⟩ := h
    rw [ih h1]
  | map m => intro b h; cases b <;> first | (simp [aeq] at h; done) | skip; simp only [aeq, beq_iff] at h; rw [h]
  | nul k => intro b h; cases b <;> first | (cases k <;> simp [aeq] at h; done) | skip; rename_i k'; cases k <;> cases k' <;> first | rfl | (simp [aeq] at h; done)
  | str s => intro b h; cases b <;> first | (simp [aeq] at h; done) | skip; simp only [aeq] at h; rw [bytesEq_eq, decide_eq_true_eq] at h; rw [h]
  | slice i o n c =>
    intro b h
    cases b <;> first | (simp [aeq] at h; done) | skip
    rename_i j p m d
    simp only [aeq, Bool.and_eq_true, beq_iff] at h
    obtain ⟨⟨⟨rfl, rfl⟩, rfl⟩, h4⟩ := h
    cases c <;> cases d <;> first | rfl | (simp at h4; done) | skip
    all_goals (simp only [beq_iff] at h4; rw [h4])
  | bool x => intro b h; cases b <;> first | (simp [aeq] at h; done) | skip; simp only [aeq, beq_iff_eq] at h; rw [h]
  | ptr i o => intro b h; cases b <;> first | (simp [aeq] at h; done) | skip; simp only [aeq, Bool.and_eq_true, beq_iff] at h; rw [h.1, h.2]
  | int k n =>
    intro b h
    cases b <;> first | (simp [aeq] at h; done) | skip
    rename_i k' m
    simp only [aeq, Bool.and_eq_true] at h
    have := kn_inj h.1; subst this
    cases n <;> cases m <;> first | (simp at h; done) | skip
    · simp only [beq_iff] at h; rw [h.2]
    · simp only [beq_iff] at h; rw [h.2]
end Go.Fx

/-! A plan's run. -/
namespace Go.Fx
set_option linter.unusedVariables false
set_option linter.unusedSimpArgs false

def Out (call : CallT) : R → AV → Hp → Prop
  | .val v0 H0, v, H' => v = v0 ∧ H' = H0
  | .enter f args H0, v, H' => call f args H0 = some (v, H')
theorem After.out {call : CallT} {c : K} {x : XR} {r : R} (h : After call c x r) : ∃ v H', Out call r v H' ∧ c v H' = x := by
  cases r with
  | val v H' => exact ⟨v, H', ⟨rfl, rfl⟩, h⟩
  | enter f args H => obtain ⟨v, H', h1, h2⟩ := h; exact ⟨v, H', h1, h2⟩

section
variable (P : Program) (call : CallT) (N mask : Nat) (all : List Oper)
/-- an operation's turn -/
def Ev (anc : Nat) (o : Oper) (ts : VT) (H : Hp) (v : AV) (H' : Hp) : Prop := match o.guard with
  | none => ∃ r, opA P (At (resD N mask anc (writersOf all 0)) [] ts) H o = some r ∧ Out call r v H'
  | some (j, want) => ∃ g u, guardT all j = some g ∧ At (resD N mask anc (writersOf all 0)) [] ts (.tmp g) = some u ∧
    ((u = .bool want ∧ ∃ r, opA P (At (resD N mask anc (writersOf all 0)) [] ts) H o = some r ∧ Out call r v H') ∨ (u ≠ .bool want ∧ v = undefA ∧ H' = H))
noncomputable def putS (o : Oper) (v : AV) (ts : VT) : VT := match o.dst with
  | some d => setP (posOf 24 d) (some v) ts
  | none => ts
/-- a plan's run: what is done, what is open, what is fresh, which effects are done -/
inductive Runs (ancs : List Nat) : List It → (done opn fresh eff : Nat) → VT → Hp → VT → Hp → Prop where
  | nil {done opn fresh eff : Nat} {ts : VT} {H : Hp} : done = Nat.sub (Nat.shiftLeft 1 all.length) 1 → subM opn fresh = true → Runs ancs [] done opn fresh eff ts H ts H
  | look {i : Nat} {l : List It} {o : Oper} {anc done opn fresh eff : Nat} {ts tsF : VT} {H H' HF : Hp} {v : AV} : all[i]? = some o → ancs[i]? = some anc → Nat.testBit done i = false → subM anc done = true → subM eff anc = true →
      clsO P o = 0 → Ev P call N mask all anc o ts H v H' → Runs ancs l (bitOr done i) (bitOr opn i) (bitOr fresh i) eff (putS o v ts) H' tsF HF → Runs ancs (.ex i :: l) done opn fresh eff ts H tsF HF
  | mk {i : Nat} {l : List It} {o : Oper} {anc done opn fresh eff : Nat} {ts tsF : VT} {H H' HF : Hp} {v : AV} : all[i]? = some o → ancs[i]? = some anc → Nat.testBit done i = false → subM anc done = true → subM eff anc = true →
      clsO P o = 1 → Ev P call N mask all anc o ts H v H' → Runs ancs l (bitOr done i) opn 0 eff (putS o v ts) H' tsF HF → Runs ancs (.ex i :: l) done opn fresh eff ts H tsF HF
  | eff {i : Nat} {l : List It} {o : Oper} {anc done opn fresh eff : Nat} {ts tsF : VT} {H H' HF : Hp} {v : AV} : all[i]? = some o → ancs[i]? = some anc → Nat.testBit done i = false → subM anc done = true → subM eff anc = true →
      clsO P o ≠ 0 → clsO P o ≠ 1 → subM opn fresh = true → Ev P call N mask all anc o ts H v H' → Runs ancs l (bitOr done i) (diffM opn anc) 0 (bitOr eff i) (putS o v ts) H' tsF HF → Runs ancs (.ex i :: l) done opn fresh eff ts H tsF HF
  | ck {i d : Nat} {l : List It} {o : Oper} {anc done opn fresh eff : Nat} {ts tsF : VT} {H H' HF : Hp} {v : AV} : all[i]? = some o → ancs[i]? = some anc → Nat.testBit done i = true → subM anc done = true → clsO P o = 0 → o.dst = some d →
      Ev P call N mask all anc o ts H v H' → getP (posOf 24 d) ts = some v → Runs ancs l done opn (bitOr fresh i) eff ts H tsF HF → Runs ancs (.ck i :: l) done opn fresh eff ts H tsF HF
end

section
variable {P : Program} {call : CallT} {N mask : Nat} {all : List Oper} {x : XR} (hx : x ≠ .fail)
include hx
theorem opD_inv {anc : Nat} {o : Oper} {ts : VT} {H : Hp} {c : K} (h : runO (opD P N mask all (writersOf all 0) anc o) call [] ts H c = x) : ∃ v H', Ev P call N mask all anc o ts H v H' ∧ c v H' = x := by
  unfold opD at h
  unfold Ev
  split at h
  · rename_i hg
    obtain ⟨r, h1, h2⟩ := opK_inv hx h
    obtain ⟨v, H', h3, h4⟩ := h2.out
    exact ⟨v, H', by rw [hg]; exact ⟨r, h1, h3⟩, h4⟩
  · rename_i j want hg
    split at h
    · exact absurd h.symm hx
    · rename_i g ht
      obtain ⟨u, h1, h2⟩ := guard_inv hx h
      rcases h2 with ⟨e, h2⟩ | ⟨e, h2⟩
      · obtain ⟨r, h3, h4⟩ := opK_inv hx h2
        obtain ⟨v, H', h5, h6⟩ := h4.out
        exact ⟨v, H', by rw [hg]; exact ⟨g, u, ht, h1, .inl ⟨e, r, h3, h5⟩⟩, h6⟩
      · exact ⟨undefA, H, by rw [hg]; exact ⟨g, u, ht, h1, .inr ⟨e, rfl, rfl⟩⟩, h2⟩

omit hx in
theorem exX_inv {b : BOp} {o : Oper} {rest : BX} {ts : VT} {H : Hp} {k : VT → Hp → XR} (h : runX (.mk (exX b (o.dst.map (posOf 24)) rest)) call ts H k = x) :
    runO b call [] ts H (fun v H' => runX rest call (putS o v ts) H' k) = x := by
  have h : runO b call [] ts H (fun v H' => runX rest call (Option.rec (motive := fun _ => VT) ts (fun p => setP p (some v) ts) (o.dst.map (posOf 24))) H' k) = x := h
  rw [← h]; congr 1; funext v H'; congr 1
  unfold putS
  cases o.dst <;> rfl

theorem planK_inv {fin : BX} {ancs : List Nat} {k : VT → Hp → XR} : ∀ {l : List It} {done opn fresh eff : Nat} {r : BX} {ts : VT} {H : Hp}, planK P N mask fin all (writersOf all 0) ancs l done opn fresh eff = some r → runX r call ts H k = x →
    ∃ tsF HF, Runs P call N mask all ancs l done opn fresh eff ts H tsF HF ∧ runX fin call tsF HF k = x
  | [], done, opn, fresh, eff, r, ts, H, hr, h => by
    unfold planK at hr
    obtain ⟨h1, h2⟩ := cond_some hr
    obtain rfl := Option.some.inj h2
    rw [Bool.and_eq_true, beq_iff] at h1
    exact ⟨ts, H, .nil h1.1 h1.2, h⟩
  | .ex i :: l, done, opn, fresh, eff, r, ts, H, hr, h => by
    unfold planK at hr
    split at hr
    case h_2 => cases hr
    rename_i o anc ho ha
    obtain ⟨h1, hr⟩ := cond_some hr
    simp only [Bool.and_eq_true] at h1
    obtain ⟨⟨h1, h2⟩, h3⟩ := h1
    have h1 : Nat.testBit done i = false := by cases hb : Nat.testBit done i with
      | false => rfl
      | true => rw [hb] at h1; cases h1
    obtain ⟨r', hr', rfl⟩ := map_some hr
    obtain ⟨v, H', h4, h5⟩ := opD_inv hx (exX_inv h)
    split at hr'
    · rename_i hc
      obtain ⟨tsF, HF, h6, h7⟩ := planK_inv hr' h5
      exact ⟨tsF, HF, .look ho ha h1 h2 h3 hc h4 h6, h7⟩
    · rename_i hc
      obtain ⟨tsF, HF, h6, h7⟩ := planK_inv hr' h5
      exact ⟨tsF, HF, .mk ho ha h1 h2 h3 hc h4 h6, h7⟩
    · rename_i c0 c1
      obtain ⟨h8, hr'⟩ := cond_some hr'
      obtain ⟨tsF, HF, h6, h7⟩ := planK_inv hr' h5
      exact ⟨tsF, HF, .eff ho ha h1 h2 h3 c0 c1 h8 h4 h6, h7⟩
  | .ck i :: l, done, opn, fresh, eff, r, ts, H, hr, h => by
    unfold planK at hr
    split at hr
    case h_2 => cases hr
    rename_i o anc ho ha
    split at hr
    case h_2 => cases hr
    rename_i d hc hd
    obtain ⟨h1, hr⟩ := cond_some hr
    rw [Bool.and_eq_true] at h1
    obtain ⟨r', hr', rfl⟩ := map_some hr
    obtain ⟨v, H', h4, h5⟩ := opD_inv hx (show runO (opD P N mask all (writersOf all 0) anc o) call [] ts H (fun v H' => optK (getP (posOf 24 d) ts) fun u => ifK (aeq v u) (runX r' call ts H k)) = x from h)
    obtain ⟨u, h6, h7⟩ := optK_inv hx h5
    obtain ⟨h8, h9⟩ := ifK_inv hx h7
    have := aeq_eq h8; subst this
    obtain ⟨tsF, HF, g1, g2⟩ := planK_inv hr' h9
    exact ⟨tsF, HF, .ck ho ha h1.1 h1.2 hc hd h4 h6 g1, g2⟩
end
end Go.Fx

/-! What a plan's run tells. -/
namespace Go.Fx
set_option linter.unusedVariables false
set_option linter.unusedSimpArgs false

theorem bits_diff {a b u : Nat} : Nat.testBit (diffM a b) u = (Nat.testBit a u && !(Nat.testBit b u)) := by
  unfold diffM
  show Nat.testBit (a ^^^ (a &&& b)) u = _
  rw [Nat.testBit_xor, Nat.testBit_and]
  cases Nat.testBit a u <;> cases Nat.testBit b u <;> rfl
theorem bits_full {n u : Nat} : Nat.testBit (Nat.sub (Nat.shiftLeft 1 n) 1) u = decide (u < n) := by
  show Nat.testBit ((1 <<< n) - 1) u = _
  rw [Nat.one_shiftLeft, Nat.testBit_two_pow_sub_one]

section
variable {P : Program} {call : CallT} {N mask : Nat} {all : List Oper} {ancs : List Nat}

theorem cls_spec {o : Oper} (h : clsO P o = 0) : match spec P o with | .p1 _ _ | .p2 _ _ _ | .pl _ _ | .l1 _ _ | .l2 _ _ _ | .pick _ _ _ => True | _ => False := by
  unfold clsO at h
  split at h
  · cases h
  · cases h
  · split at h
    all_goals first | (cases h; done) | skip
    all_goals (rename_i e; rw [e]; trivial)
theorem look_val {o : Oper} (h : clsO P o = 0) {ρ : Operand → Option AV} {H : Hp} {r : R} (ho : opA P ρ H o = some r) : ∃ v, r = .val v H := by
  have hc := cls_spec h
  rw [opA_eq] at ho
  cases hs : spec P o with
  | p1 y f => rw [hs] at ho; obtain ⟨a, _, h1⟩ := bind_some (show (ρ y).bind _ = some r from ho); obtain ⟨v, _, rfl⟩ := valO_some h1; exact ⟨v, rfl⟩
  | p2 y z f => rw [hs] at ho; obtain ⟨a, _, h1⟩ := bind_some (show (ρ y).bind _ = some r from ho); obtain ⟨b, _, h2⟩ := bind_some h1; obtain ⟨v, _, rfl⟩ := valO_some h2; exact ⟨v, rfl⟩
  | pl xs f => rw [hs] at ho; obtain ⟨a, _, h1⟩ := bind_some (show (evalAll ρ xs).bind _ = some r from ho); obtain ⟨v, _, rfl⟩ := valO_some h1; exact ⟨v, rfl⟩
  | l1 y f => rw [hs] at ho; obtain ⟨a, _, h1⟩ := bind_some (show (ρ y).bind _ = some r from ho); obtain ⟨v, _, rfl⟩ := valO_some h1; exact ⟨v, rfl⟩
  | l2 y z f => rw [hs] at ho; obtain ⟨a, _, h1⟩ := bind_some (show (ρ y).bind _ = some r from ho); obtain ⟨b, _, h2⟩ := bind_some h1; obtain ⟨v, _, rfl⟩ := valO_some h2; exact ⟨v, rfl⟩
  | pick q y z =>
    rw [hs] at ho
    obtain ⟨a, _, h1⟩ := bind_some (show (ρ q).bind _ = some r from ho)
    split at h1
    · obtain ⟨v, _, rfl⟩ := valO_some h1; exact ⟨v, rfl⟩
    · cases h1
  | _ => rw [hs] at hc; exact hc.elim
theorem look_same {anc : Nat} {o : Oper} {ts : VT} {H H' : Hp} {v : AV} (hc : clsO P o = 0) (h : Ev P call N mask all anc o ts H v H') : H' = H := by
  unfold Ev at h
  split at h
  · obtain ⟨r, h1, h2⟩ := h
    obtain ⟨u, rfl⟩ := look_val hc h1
    exact h2.2
  · obtain ⟨g, u, _, _, h | h⟩ := h
    · obtain ⟨_, r, h1, h2⟩ := h
      obtain ⟨u, rfl⟩ := look_val hc h1
      exact h2.2
    · exact h.2.2

/-- slots whose writers are done stay -/
theorem slots_fixed (hw : onceW N (writersOf all 0) = true) (hN : N ≤ 65536) {l : List It} {done opn fresh eff : Nat} {ts tsF : VT} {H HF : Hp} (h : Runs P call N mask all ancs l done opn fresh eff ts H tsF HF) {t : Nat} (ht : t < N) :
    (∀ j, (t, j) ∈ writersOf all 0 → Nat.testBit done j = true) → getP (posOf 24 t) tsF = getP (posOf 24 t) ts := by
  have put : ∀ {i : Nat} {o : Oper} {done : Nat} {v : AV} {ts : VT}, all[i]? = some o → Nat.testBit done i = false → (∀ j, (t, j) ∈ writersOf all 0 → Nat.testBit done j = true) → getP (posOf 24 t) (putS o v ts) = getP (posOf 24 t) ts := by
    intro i o done v ts ho hi hd
    unfold putS
    split
    · rename_i d hdst
      refine getP_setP_ne _ _ _ _ fun e => ?_
      have hm := mem_writersOf (i := 0) ho hdst
      rw [Nat.zero_add] at hm
      have hlt := (onceW_spec hw).1 d i hm
      have := posOf_inj 24 d t (by omega) (by omega) e
      subst this
      rw [hd i hm] at hi; cases hi
    · rfl
  have up : ∀ {i done : Nat}, (∀ j, (t, j) ∈ writersOf all 0 → Nat.testBit done j = true) → ∀ j, (t, j) ∈ writersOf all 0 → Nat.testBit (bitOr done i) j = true := fun hd j hj => bits_bitOr.2 (.inl (hd j hj))
  induction h with
  | nil _ _ => intro _; rfl
  | look ho _ hi _ _ _ _ _ ih => intro hd; rw [ih (up hd), put ho hi hd]
  | mk ho _ hi _ _ _ _ _ ih => intro hd; rw [ih (up hd), put ho hi hd]
  | eff ho _ hi _ _ _ _ _ _ _ ih => intro hd; rw [ih (up hd), put ho hi hd]
  | ck _ _ _ _ _ _ _ _ _ ih => intro hd; exact ih hd

theorem resD_tmp (anc t : Nat) (wr : List (Nat × Nat)) : resD N mask anc wr (.tmp t) = match lookW t wr with
  | some j => cond (Nat.testBit anc j) (.var (posOf 24 t)) .bad
  | none => varT N mask t := rfl
/-- what an operation reads is there at the plan's end -/
theorem At_fixed (hw : onceW N (writersOf all 0) = true) (hN : N ≤ 65536) {l : List It} {done opn fresh eff anc : Nat} {ts tsF : VT} {H HF : Hp} (h : Runs P call N mask all ancs l done opn fresh eff ts H tsF HF) (ha : subM anc done = true) :
    At (resD N mask anc (writersOf all 0)) [] tsF = At (resD N mask anc (writersOf all 0)) [] ts := by
  funext y
  show evC (resD N mask anc (writersOf all 0) y) [] tsF = evC (resD N mask anc (writersOf all 0) y) [] ts
  cases y with
  | tmp t =>
    rw [resD_tmp]
    cases hl : lookW t (writersOf all 0) with
    | some j =>
      simp only
      cases hb : Nat.testBit anc j with
      | false => rfl
      | true =>
        have hm := lookW_mem hl
        refine slots_fixed hw hN h ((onceW_spec hw).1 t j hm) fun j' hj' => ?_
        rw [(onceW_spec hw).2 t j' j hj' hm]
        exact (subM_iff.1 ha) j hb
    | none =>
      simp only
      unfold varT
      cases hc : (Nat.blt t N && Nat.testBit mask t) with
      | false => rfl
      | true =>
        rw [Bool.and_eq_true, blt_iff] at hc
        exact slots_fixed hw hN h hc.1 fun j' hj' => absurd hj' (lookW_none hl j')
  | const v =>
    have e : resD N mask anc (writersOf all 0) (.const v) = match ofConst v with | some a => .cst a | none => .bad := rfl
    rw [e]
    cases ofConst v <;> rfl
  | func f => rfl
  | global g => rfl
theorem Ev_fixed {anc : Nat} {o : Oper} {ts ts' : VT} {H H' : Hp} {v : AV} (e : At (resD N mask anc (writersOf all 0)) [] ts' = At (resD N mask anc (writersOf all 0)) [] ts) (h : Ev P call N mask all anc o ts H v H') : Ev P call N mask all anc o ts' H v H' := by
  unfold Ev at h ⊢
  rw [e]; exact h

/-- what is not done yet comes behind the effects that are -/
theorem later {l : List It} {done opn fresh eff : Nat} {ts tsF : VT} {H HF : Hp} (h : Runs P call N mask all ancs l done opn fresh eff ts H tsF HF) :
    ∀ i, i < all.length → Nat.testBit done i = false → ∃ anc, ancs[i]? = some anc ∧ ∀ u, Nat.testBit eff u = true → Nat.testBit anc u = true := by
  induction h with
  | nil hd _ => intro i hi hn; rw [hd, bits_full, decide_eq_false_iff_not] at hn; exact absurd hi hn
  | @look j _ _ anc done _ _ _ _ _ _ _ _ _ ho ha hj _ he _ _ _ ih =>
    intro i hi hn
    by_cases hij : i = j
    · subst hij; exact ⟨anc, ha, subM_iff.1 he⟩
    · refine ih i hi ?_
      rw [testBit_bitOr, hn, Bool.false_or, decide_eq_false_iff_not]; exact hij
  | @mk j _ _ anc done _ _ _ _ _ _ _ _ _ ho ha hj _ he _ _ _ ih =>
    intro i hi hn
    by_cases hij : i = j
    · subst hij; exact ⟨anc, ha, subM_iff.1 he⟩
    · refine ih i hi ?_
      rw [testBit_bitOr, hn, Bool.false_or, decide_eq_false_iff_not]; exact hij
  | @eff j _ _ anc done _ _ _ _ _ _ _ _ _ ho ha hj _ he _ _ _ _ _ ih =>
    intro i hi hn
    by_cases hij : i = j
    · subst hij; exact ⟨anc, ha, subM_iff.1 he⟩
    · obtain ⟨a, h1, h2⟩ := ih i hi (by rw [testBit_bitOr, hn, Bool.false_or, decide_eq_false_iff_not]; exact hij)
      exact ⟨a, h1, fun u hu => h2 u (bits_bitOr.2 (.inl hu))⟩
  | ck _ _ _ _ _ _ _ _ _ ih => exact ih
end
end Go.Fx

/-! Objects that are made late. -/
namespace Go.Fx
set_option linter.unusedVariables false
set_option linter.unusedSimpArgs false

section
variable {P : Program} {φ φ0 : Nat → Option (Blk × Nat)} {H H0 : Hp} {w w0 : World}

theorem upd_sub' {φ : Nat → Option (Blk × Nat)} {n q : Nat} {b : Blk} (h : φ n = none) : ∀ i c, φ i = some c → upd φ n b q i = some c := by
  intro i c e
  have : i ≠ n := by rintro rfl; rw [h] at e; cases e
  simp [upd, this, e]
theorem HR.ghost (h : HR φ H w) (o : AObj) : HR φ (H.new o) w where
  dom i b e := by have := h.dom i b e; rw [next_new]; omega
  obj i x b q hx e := by
    rcases get_new hx with ⟨a, _⟩ | ⟨_, a⟩
    · have := h.dom i _ e; omega
    · exact h.obj i x b q a e
  lt i x hx := by
    rcases get_new hx with ⟨a, _⟩ | ⟨_, a⟩
    · rw [next_new]; omega
    · have := h.lt i x a; rw [next_new]; omega
  inj i j oi oj b b' q q' hi hj ei ej hbb := by
    rcases get_new hi with ⟨a, _⟩ | ⟨_, a⟩
    · have := h.dom i _ ei; omega
    · rcases get_new hj with ⟨c, _⟩ | ⟨_, c⟩
      · have := h.dom j _ ej; omega
      · exact h.inj i j _ _ b b' q q' a c ei ej hbb
theorem Ext.ghostNew (e : Ext φ0 H0 w0 φ H w) (h : HR φ H w) (o : AObj) : Ext φ0 H0 w0 φ (H.new o) w where
  sub := e.sub
  dom := e.dom
  nxt := by rw [next_new]; exact Nat.le_succ_of_le e.nxt
  size := e.size
  frame := e.frame
  new i x b q hx hp := by
    rcases get_new hx with ⟨a, _⟩ | ⟨_, a⟩
    · have := h.dom i _ hp; omega
    · exact e.new i x b q a hp
  ghost i x hi hp hx := by
    rcases get_new hx with ⟨a, _⟩ | ⟨_, a⟩
    · have := e.nxt; omega
    · exact e.ghost i x hi hp a
  os := e.os
  tape := e.tape
  output := e.output
theorem heap_alloc (w : World) (co : Obj) : (w.alloc co).heap = w.heap.push co := rfl
/-- an object is made of which the heap knows already -/
theorem HR.mat (h : HR φ H w) {n q : Nat} {o : AObj} {co : Obj} (hn : φ n = none) (hlt : n < H.next) (ho : ∀ x, H.get n = some x → x = o) (r : RelO (upd φ n ⟨w.heap.size, 0⟩ q) 0 q o co) : HR (upd φ n ⟨w.heap.size, 0⟩ q) H (w.alloc co) := by
  have hb : ∀ b co, w.heap[b]? = some co → b < w.heap.size := fun b co e => (Array.getElem?_eq_some_iff.1 e).1
  refine ⟨fun i b e => ?_, fun i x b p hx e => ?_, h.lt, fun i j oi oj b b' p p' hi hj ei ej hbb => ?_⟩
  · rcases upd_or e with ⟨a, _⟩ | ⟨_, a⟩
    · omega
    · exact h.dom i b a
  · rcases upd_or e with ⟨a, c⟩ | ⟨a, c⟩
    · subst a; obtain ⟨rfl, rfl⟩ := Prod.mk.inj c
      obtain rfl := ho x hx
      exact ⟨co, by rw [heap_alloc]; simp, r⟩
    · obtain ⟨c1, h1, h2⟩ := h.obj i x b p hx c
      refine ⟨c1, ?_, h2.mono (upd_sub' hn)⟩
      have := hb _ _ h1
      rw [heap_alloc, Array.getElem?_push]; simp [show b.b ≠ w.heap.size by omega, h1]
  · rcases upd_or ei with ⟨a, a'⟩ | ⟨a, a'⟩ <;> rcases upd_or ej with ⟨c, c'⟩ | ⟨c, c'⟩
    · omega
    · obtain ⟨c1, h1, _⟩ := h.obj j oj b' p' hj c'; have := hb _ _ h1; have := congrArg Blk.b (Prod.mk.inj a').1; simp only at this; omega
    · obtain ⟨c1, h1, _⟩ := h.obj i oi b p hi a'; have := hb _ _ h1; have := congrArg Blk.b (Prod.mk.inj c').1; simp only at this; omega
    · exact h.inj i j _ _ b b' p p' hi hj a' c' hbb
theorem Ext.mat (e : Ext φ0 H0 w0 φ H w) {n q : Nat} {co : Obj} (hn : φ n = none) (hlt : H0.next ≤ n) : Ext φ0 H0 w0 (upd φ n ⟨w.heap.size, 0⟩ q) H (w.alloc co) where
  sub i b h := upd_sub' hn i b (e.sub i b h)
  dom i b h := by
    rcases upd_or h with ⟨a, _⟩ | ⟨_, a⟩
    · exact .inr (by omega)
    · exact e.dom i b a
  nxt := e.nxt
  size := by rw [heap_alloc, Array.size_push]; exact Nat.le_succ_of_le e.size
  frame b hb hno := by
    rw [heap_alloc, Array.getElem?_push]
    have := e.size
    rw [if_neg (by omega)]
    exact e.frame b hb hno
  new i x b p hx h := by
    rcases upd_or h with ⟨_, a⟩ | ⟨_, a⟩
    · have a1 : b.b = w.heap.size := congrArg Blk.b (Prod.mk.inj a).1; have := e.size; exact .inl (by omega)
    · exact e.new i x b p hx a
  ghost := e.ghost
  os := e.os
  tape := e.tape
  output := e.output

/-- what an operation makes, whenever it runs -/
def MatOk (P : Program) (o : Oper) (ρA : Operand → Option AV) (n : Nat) (obj : AObj) (v : AV) : Prop := ∀ (φ : Nat → Option (Blk × Nat)) (a : Act) (w : World), (∀ y u, ρA y = some u → Rel φ u (a.eval y)) →
  ∃ cv co q, (execOp a.eval o).run P w = .ok (.value cv) (w.alloc co) ∧ ∀ ψ, (∀ i b, φ i = some b → ψ i = some b) → ψ n = some (⟨w.heap.size, 0⟩, q) → RelO ψ 0 q obj co ∧ Rel ψ v cv

theorem alloc_mat {o : Oper} {e : TypeId} {ρA : Operand → Option AV} {r : R} (hop : o.op = .alloc e) (ho : opA P ρA H o = some r) : ∃ obj v, r = .val v (H.new obj) ∧ MatOk P o ρA H.next obj v := by
  rw [opA_eq] at ho
  unfold spec at ho
  rw [hop] at ho
  simp only at ho
  split at ho
  · rename_i n b z he
    obtain ⟨inf, zv, hi, rfl, rfl, hz0, hpos, hzl, hb, za, hza, rfl⟩ := elemT_some he
    obtain rfl := Option.some.inj (show allocF e za.cells H = some r from ho)
    refine ⟨_, _, rfl, fun φ a w hρ => ⟨.pointer (some ⟨w.heap.size, 0, none⟩), .cells zv.cells e, 0, ?_, fun ψ hs hn => ⟨⟨rfl, fun k u hk => ?_, fun k hk => by cases hk; exact ⟨Nat.le_refl _, fun _ => rfl⟩, fun hc => absurd rfl hc⟩, ptr0 hn⟩⟩⟩
    · unfold execOp
      rw [hop]
      simp [Instr.alloc, zeroValue, typeInfo, hi, hz0, newVar, newRow]
    · obtain ⟨cv, h1, h2⟩ := ((ofConst_rel (φ := ψ) hza).2.1).get (getN_storeL_E hk)
      exact ⟨cv, by simpa using h1, h2⟩
  · cases ho

theorem replicate_flat {α : Type} (a : α) (n : Nat) : (List.replicate n [a]).flatten = List.replicate n a := by
  induction n with
  | zero => rfl
  | succ n ih => rw [List.replicate_succ, List.flatten_cons, List.replicate_succ, ih]; rfl

noncomputable def rowOf (z : List AV) (cap : Nat) : VT := match z with
  | [v] => zerosT v 20 cap
  | _ => storeL .E 0 (List.replicate cap z).flatten
theorem makeSliceF_inv {e size bytes : Nat} {z : List AV} {l c : AV} {r : R} (h : makeSliceF e size bytes z l c H = some r) : ∃ k1 len k2 cap, l = .int k1 (.ofNat len) ∧ c = .int k2 (.ofNat cap) ∧ len ≤ cap ∧ bytes * cap ≤ 140737488355328 ∧ cap < 100000 ∧
    r = .val (.slice H.next 0 len (.known cap)) (H.new (.cells (rowOf z cap) e (some 0) 0)) := by
  unfold makeSliceF at h
  split at h
  · obtain ⟨h1, h2⟩ := cond_some h
    simp only [Bool.and_eq_true, ble_iff, blt_iff] at h1
    exact ⟨_, _, _, _, rfl, rfl, h1.1.1, h1.1.2, h1.2, (Option.some.inj h2).symm⟩
  · cases h
theorem makeSlice_run {t e : TypeId} {inf : TypeInfo} {zv : Value} {k1 k2 : IntKind} {len cap : Nat} (ht : P.underlying t = some (.slice e)) (hi : P.info? e = some inf) (hz0 : inf.zero = some zv) (hzs : zv.cells.size = inf.size)
    (h1 : len ≤ cap) (h2 : inf.bytes * cap ≤ 140737488355328) (h3 : cap < 100000) : (Instr.makeSlice t (.int k1 (Int.ofNat len)) (.int k2 (Int.ofNat cap))).run P w = .ok (.slice (some ⟨w.heap.size, 0, none⟩) len cap) (w.alloc (.cells (Builtin.zeroCells zv.cells cap) e)) := by
  have hw1 : IntKind.i64.wrap (Int.ofNat len) = Int.ofNat len := wrap_small _ _ (by show len < 9223372036854775808; omega)
  have hw2 : IntKind.i64.wrap (Int.ofNat cap) = Int.ofNat cap := wrap_small _ _ (by show cap < 9223372036854775808; omega)
  have e1 : ¬ ((inf.bytes : Int) * (cap : Int) > 2 ^ 48) := by
    have : ((inf.bytes * cap : Nat) : Int) ≤ (140737488355328 : Nat) := Int.ofNat_le.2 h2
    rw [Int.natCast_mul] at this; omega
  have e2 : ¬ ((cap : Int) < 0) := by omega
  have e3 : ¬ ((len : Int) < 0) := by omega
  have e4 : ¬ ((len : Int) > cap) := by omega
  have hti : ∀ w, (typeInfo e).run P w = .ok inf w := fun w => by simp [typeInfo, hi]
  have hzv : ∀ w, (zeroValue e).run P w = .ok zv w := fun w => by simp [zeroValue, typeInfo, hi, hz0]
  have hsz : ∀ w, (sizeOf e).run P w = .ok inf.size w := fun w => by simp [sizeOf, typeInfo, hi]
  unfold Instr.makeSlice
  simp only [Int.ofNat_eq_natCast] at hw1 hw2
  simp only [Int.ofNat_eq_natCast, Sem.run_bind, Go.asInt, asIntOf, Sem.run_pure, Result.andThen_ok, run_underlying ht, hti, hw1, hw2]
  rw [if_neg (by simp only [Bool.or_eq_true, decide_eq_true_eq, not_or]; exact ⟨⟨⟨e2, e1⟩, e3⟩, e4⟩)]
  simp only [Sem.run_bind, run_askRoom, hsz, Result.andThen_ok, Int.toNat_natCast]
  by_cases hc : cap * inf.size = 0
  · rw [if_pos hc]
    simp [hc, Builtin.zeroCells, hzs, newRow, show Array.range 0 = #[] from rfl]
  · rw [if_neg hc]
    simp [hzv, Builtin.zeroCells, hzs, newRow]

theorem makeSlice_mat {o : Oper} {t : TypeId} {l c : Operand} {ρA : Operand → Option AV} {r : R} (hop : o.op = .makeSlice t l c) (ho : opA P ρA H o = some r) : ∃ obj v, r = .val v (H.new obj) ∧ MatOk P o ρA H.next obj v := by
  rw [opA_eq] at ho
  unfold spec at ho
  rw [hop] at ho
  simp only at ho
  split at ho
  case h_2 => cases ho
  rename_i e ht
  split at ho
  case h_2 => cases ho
  rename_i n b z he
  obtain ⟨inf, zv, hi, rfl, rfl, hz0, hpos, hzl, hb, za, hza, rfl⟩ := elemT_some he
  obtain ⟨vl, hl, ho⟩ := bind_some (show (ρA l).bind _ = some r from ho)
  obtain ⟨vc, hc, ho⟩ := bind_some ho
  obtain ⟨k1, len, k2, cap, rfl, rfl, h1, h2, h3, rfl⟩ := makeSliceF_inv ho
  refine ⟨_, _, rfl, fun φ a w hρ => ?_⟩
  have rl := hρ _ _ hl
  have rc := hρ _ _ hc
  have hzs := z_size hza hzl
  have hcells : (Builtin.zeroCells zv.cells cap).toList = (List.replicate cap zv.cells.toList).flatten := by
    have := zeroCells_list zv.cells.toList cap
    rwa [Array.toArray_toList] at this
  refine ⟨.slice (some ⟨w.heap.size, 0, none⟩) len cap, .cells (Builtin.zeroCells zv.cells cap) e, 0, ?_, fun ψ hs hn => ⟨⟨rfl, fun k u hk => ?_, fun k hk => by cases hk; exact ⟨Nat.le_refl _, fun _ => rfl⟩, fun hc => absurd rfl hc⟩, slice0 hn h1 rfl⟩⟩
  · unfold execOp
    rw [hop]
    simp only
    generalize a.eval l = cl at rl ⊢
    generalize a.eval c = cc at rc ⊢
    cases rl; cases rc
    rw [Sem.run_bind, makeSlice_run (undF_some ht) hi hz0 hzs h1 h2 h3]; rfl
  · have hr := RelL.replicate (ofConst_rel (φ := ψ) hza).2.1 cap
    rw [← hcells] at hr
    unfold rowOf at hk
    split at hk
    · rename_i v0 hv0
      obtain ⟨hlt, rfl⟩ := getN_zeros hk
      rw [hv0, replicate_flat] at hr
      obtain ⟨cv, g1, g2⟩ := hr.get (i := k) (a := u) (by simp [hlt])
      exact ⟨cv, by simpa using g1, g2⟩
    · obtain ⟨cv, g1, g2⟩ := hr.get (getN_storeL_E hk)
      exact ⟨cv, by simpa using g1, g2⟩

theorem mk_mat {o : Oper} {ρA : Operand → Option AV} {r : R} (hc : clsO P o = 1) (ho : opA P ρA H o = some r) : o.guard = none ∧ ∃ obj v, r = .val v (H.new obj) ∧ MatOk P o ρA H.next obj v := by
  unfold clsO at hc
  split at hc
  · rename_i e hg hop; exact ⟨hg, alloc_mat hop ho⟩
  · rename_i t l c hg hop; exact ⟨hg, makeSlice_mat hop ho⟩
  · split at hc <;> cases hc
end
end Go.Fx

/-! The simulation of a region that draws its order: the invariant. -/
namespace Go.Fx
set_option linter.unusedVariables false
set_option linter.unusedSimpArgs false

section
variable {P : Program} {φ : Nat → Option (Blk × Nat)} {H : Hp} {w : World} {call : CallT} {a : Act} {ρA : Operand → Option AV}

theorem op_out {o : Oper} {r : R} {v : AV} {H' : Hp} {K : Act → World → Prop} {Q : Exit → Act → World → Prop} (hs : Sound P call) (h : HR φ H w) (hρ : ∀ x v, ρA x = some v → Rel φ v (a.eval x)) (ho : opA P ρA H o = some r) (ha : Out call r v H')
    (hK : ∀ ψ cv w', Rel ψ v cv → HR ψ H' w' → Ext φ H w ψ H' w' → K (a.put o.dst cv) w') : o.wp P a w K Q := by
  unfold Oper.wp
  cases opA_ok hρ h ho with
  | val n cv w' ψ e hn r1 r2 r3 =>
    obtain ⟨rfl, rfl⟩ := ha
    rw [e]
    rcases hn with rfl | ⟨rfl, rfl⟩
    · exact hK _ _ _ r1 r2 r3
    · exact hK _ _ _ r1 r2 r3
  | enter vs e r1 =>
    rw [e]
    rcases hs _ _ _ _ _ ha φ w vs h r1 with ⟨cv, w', ψ, g1, g2, g3, g4⟩ | ⟨g1, g2⟩
    · rw [g1]; exact hK _ _ _ g2 g3 g4
    · rw [g1]
      refine Calls.mono g2 fun e w' he => ?_
      obtain ⟨cv, ψ, rfl, k1, k2, k3⟩ := he
      exact hK _ _ _ k1 k2 k3

variable {N mask : Nat} {all : List Oper} {ops : Array Oper}
theorem ev_wp {i anc : Nat} {o : Oper} {ts : VT} {v : AV} {H' : Hp} {K : Act → World → Prop} {Q : Exit → Act → World → Prop} (hio : ops[i]? = some o) (hall : ∀ (i : Nat) (o : Oper), all[i]? = some o → ops[i]? = some o) (hs : Sound P call) (hH : HR φ H w)
    (hρ : ∀ y u, At (resD N mask anc (writersOf all 0)) [] ts y = some u → Rel φ u (a.eval y)) (h : Ev P call N mask all anc o ts H v H')
    (hK : ∀ ψ cv w', Rel ψ v cv → HR ψ H' w' → Ext φ H w ψ H' w' → K (a.put o.dst cv) w') : wpOp P ops Q i K a w := by
  unfold wpOp
  rw [hio]
  simp only
  unfold Ev at h
  split at h
  · rename_i hg
    obtain ⟨r, h1, h2⟩ := h
    have hw : Region.wanted o (yielded ops a.tmps) = true := by unfold Region.wanted; rw [hg]
    rw [if_pos hw]
    exact .inl (op_out hs hH hρ h1 h2 hK)
  · rename_i j want hg
    obtain ⟨g, u, ht, hu, h⟩ := h
    have ht' : guardT ops.toList j = some g := by
      unfold guardT at ht ⊢
      obtain ⟨oj, h1, h2⟩ := bind_some ht
      have := hall j oj h1
      rw [show ops.toList[j]? = some oj by simpa using this, Option.bind_some]; exact h2
    have hwant := wanted_of hg ht' (hρ _ _ hu)
    rcases h with ⟨e, r, h1, h2⟩ | ⟨e, rfl, rfl⟩
    · rw [if_pos (hwant.2 e)]; exact .inl (op_out hs hH hρ h1 h2 hK)
    · rw [if_neg (fun hc => e (hwant.1 hc))]
      exact hK φ undef w undef_rel hH (Ext.refl _ _ _)
end

section
variable (P : Program) (call : CallT) (N mask : Nat) (all : List Oper) (ancs : List Nat) (tsF : VT) (HF : Hp) (φ0 : Nat → Option (Blk × Nat)) (H0 : Hp) (w0 : World) (a0 : Act)
/-- the invariant, at a place of the plan -/
structure Inv (D : Nat → Prop) (l : List It) (done opn fresh eff : Nat) (ts : VT) (H : Hp) (nu : Nat → Nat) (ob : Nat → AObj) (vl : Nat → AV) (φ : Nat → Option (Blk × Nat)) (a : Act) (w : World) : Prop where
  run : Runs P call N mask all ancs l done opn fresh eff ts H tsF HF
  s1 : ∀ i o, Nat.testBit done i = true → all[i]? = some o → clsO P o = 0 → Nat.testBit opn i = true ∨ ∃ e m, Nat.testBit eff e = true ∧ ancs[e]? = some m ∧ Nat.testBit m i = true
  s2 : ∀ i o, Nat.testBit done i = true → all[i]? = some o → clsO P o ≠ 0 → clsO P o ≠ 1 → Nat.testBit eff i = true
  fr : ∀ i, Nat.testBit fresh i = true → ∃ o anc v, all[i]? = some o ∧ ancs[i]? = some anc ∧ Ev P call N mask all anc o tsF H v H ∧ ∀ d, o.dst = some d → getP (posOf 24 d) tsF = some v
  sub : ∀ i, i < all.length → D i → Nat.testBit done i = true
  effD : ∀ e, Nat.testBit eff e = true → D e
  closed : Closed all D
  hr : HR φ H w
  ext : Ext φ0 H0 w0 φ H w
  rel : ∀ i o d v, D i → all[i]? = some o → o.dst = some d → getP (posOf 24 d) tsF = some v → Rel φ v (a.eval (.tmp d))
  old : ∀ t, (∀ j, (t, j) ∉ writersOf all 0) → a.eval (.tmp t) = a0.eval (.tmp t)
  size : N ≤ a.tmps.size
  defers : a.defers = a0.defers
  mkI : ∀ i o, Nat.testBit done i = true → all[i]? = some o → clsO P o = 1 → ∃ anc, ancs[i]? = some anc ∧ H0.next ≤ nu i ∧ nu i < H.next ∧ o.guard = none ∧ MatOk P o (At (resD N mask anc (writersOf all 0)) [] tsF) (nu i) (ob i) (vl i) ∧
    (∀ d, o.dst = some d → getP (posOf 24 d) tsF = some (vl i)) ∧ (¬ D i → φ (nu i) = none ∧ ∀ x, H.get (nu i) = some x → x = ob i)
  mkJ : ∀ i j oi oj, Nat.testBit done i = true → all[i]? = some oi → clsO P oi = 1 → Nat.testBit done j = true → all[j]? = some oj → clsO P oj = 1 → nu i = nu j → i = j
end

/-- a place where a segment ends -/
def Seg (P : Program) (all : List Oper) : List It → Prop
  | [] => True
  | .ex i :: _ => ∃ o, all[i]? = some o ∧ clsO P o ≠ 0 ∧ clsO P o ≠ 1
  | .ck _ :: _ => False

section
variable {P : Program} {call : CallT} {N mask : Nat} {all : List Oper} {ancs : List Nat} {tsF : VT} {HF : Hp} {φ0 : Nat → Option (Blk × Nat)} {H0 : Hp} {w0 : World} {a0 : Act}
variable {D : Nat → Prop} {φ : Nat → Option (Blk × Nat)} {a : Act} {w : World}

theorem put_get {o : Oper} {v : AV} {ts : VT} {d : Nat} (h : o.dst = some d) : getP (posOf 24 d) (putS o v ts) = some v := by
  unfold putS; rw [h]; exact getP_setP_self _ _ _

/-- to the end of the segment -/
theorem advance (hw : onceW N (writersOf all 0) = true) (hN : N ≤ 65536) : ∀ {l : List It} {done opn fresh eff : Nat} {ts : VT} {H : Hp} {nu : Nat → Nat} {ob : Nat → AObj} {vl : Nat → AV},
    Inv P call N mask all ancs tsF HF φ0 H0 w0 a0 D l done opn fresh eff ts H nu ob vl φ a w →
    ∃ l' done' opn' fresh' ts' H' nu' ob' vl', Seg P all l' ∧ Inv P call N mask all ancs tsF HF φ0 H0 w0 a0 D l' done' opn' fresh' eff ts' H' nu' ob' vl' φ a w
  | [], done, opn, fresh, eff, ts, H, nu, ob, vl, I => ⟨[], _, _, _, _, _, _, _, _, trivial, I⟩
  | .ck i :: l, done, opn, fresh, eff, ts, H, nu, ob, vl, I => by
    cases I.run with
    | @ck _ d _ o anc _ _ _ _ _ _ _ H' _ v ho ha hd hsub hc hdst hE hg hrun =>
      have hsame := look_same hc hE
      subst hsame
      refine advance hw hN { I with run := hrun, fr := fun j hj => ?_ }
      rcases bits_bitOr.1 hj with hj | rfl
      · exact I.fr j hj
      · refine ⟨o, anc, v, ho, ha, Ev_fixed (At_fixed hw hN hrun hsub) hE, fun d' hd' => ?_⟩
        rw [hdst] at hd'; obtain rfl := Option.some.inj hd'
        have hm := mem_writersOf (i := 0) ho hdst
        rw [Nat.zero_add] at hm
        rw [slots_fixed hw hN hrun ((onceW_spec hw).1 d j hm) fun j' hj' => by rw [(onceW_spec hw).2 d j' j hj' hm]; exact hd]
        exact hg
  | .ex i :: l, done, opn, fresh, eff, ts, H, nu, ob, vl, I => by
    -- a slot's value at the plan's end
    have slot : ∀ {opn' fresh' eff' : Nat} {o : Oper} {v : AV} {H' : Hp} {d : Nat}, all[i]? = some o → o.dst = some d → Runs P call N mask all ancs l (bitOr done i) opn' fresh' eff' (putS o v ts) H' tsF HF → getP (posOf 24 d) tsF = some v := by
      intro opn' fresh' eff' o v H' d ho hdst hrun
      have hm := mem_writersOf (i := 0) ho hdst
      rw [Nat.zero_add] at hm
      rw [slots_fixed hw hN hrun ((onceW_spec hw).1 d i hm) fun j' hj' => by rw [(onceW_spec hw).2 d j' i hj' hm]; exact bits_bitOr.2 (.inr rfl)]
      exact put_get hdst
    have at_tsF : ∀ {opn' fresh' eff' anc : Nat} {o : Oper} {v : AV} {H' : Hp}, subM anc done = true → all[i]? = some o → Nat.testBit done i = false → Runs P call N mask all ancs l (bitOr done i) opn' fresh' eff' (putS o v ts) H' tsF HF →
        At (resD N mask anc (writersOf all 0)) [] tsF = At (resD N mask anc (writersOf all 0)) [] ts := fun hsub _ _ _ => At_fixed hw hN I.run hsub
    cases I.run with
    | eff ho ha h1 h2 h3 h4 h5 h6 h7 hrun => exact ⟨.ex i :: l, _, _, _, _, _, _, _, _, ⟨_, ho, h4, h5⟩, I⟩
    | @look _ _ o anc _ _ _ _ _ _ _ H' _ v ho ha hi hsub hse hc hE hrun =>
      have hsame := look_same hc hE
      subst hsame
      refine advance hw hN (nu := nu) (ob := ob) (vl := vl) { I with
        run := hrun
        s1 := fun j oj hj hoj hcj => ?_
        s2 := fun j oj hj hoj h0 h1 => ?_
        fr := fun j hj => ?_
        sub := fun j hj hD => bits_bitOr.2 (.inl (I.sub j hj hD))
        mkI := fun j oj hj hoj hcj => ?_
        mkJ := fun j k oj ok hj hoj hcj hk hok hck e => ?_ }
      · rcases bits_bitOr.1 hj with hj | rfl
        · exact (I.s1 j oj hj hoj hcj).imp (fun h => bits_bitOr.2 (.inl h)) id
        · exact .inl (bits_bitOr.2 (.inr rfl))
      · rcases bits_bitOr.1 hj with hj | rfl
        · exact I.s2 j oj hj hoj h0 h1
        · rw [ho] at hoj; obtain rfl := Option.some.inj hoj; exact absurd hc h0
      · rcases bits_bitOr.1 hj with hj | rfl
        · exact I.fr j hj
        · exact ⟨o, anc, v, ho, ha, Ev_fixed (At_fixed hw hN I.run hsub) hE, fun d hd => slot ho hd hrun⟩
      · rcases bits_bitOr.1 hj with hj | rfl
        · exact I.mkI j oj hj hoj hcj
        · rw [ho] at hoj; obtain rfl := Option.some.inj hoj; rw [hc] at hcj; cases hcj
      · have h1 : Nat.testBit done j = true := by
          rcases bits_bitOr.1 hj with hj | rfl
          · exact hj
          · rw [ho] at hoj; obtain rfl := Option.some.inj hoj; rw [hc] at hcj; cases hcj
        have h2 : Nat.testBit done k = true := by
          rcases bits_bitOr.1 hk with hk | rfl
          · exact hk
          · rw [ho] at hok; obtain rfl := Option.some.inj hok; rw [hc] at hck; cases hck
        exact I.mkJ j k oj ok h1 hoj hcj h2 hok hck e
    | @mk _ _ o anc _ _ _ _ _ _ _ H' _ v ho ha hi hsub hse hc hE hrun =>
      have hguard : o.guard = none := by
        unfold clsO at hc
        split at hc
        · rename_i hg _; exact hg
        · rename_i hg _; exact hg
        · split at hc <;> cases hc
      have hE' : ∃ r, opA P (At (resD N mask anc (writersOf all 0)) [] ts) H o = some r ∧ Out call r v H' := by
        unfold Ev at hE; rw [hguard] at hE; exact hE
      obtain ⟨r, hr, hout⟩ := hE'
      obtain ⟨_, obj, u, rfl, hmat⟩ := mk_mat hc hr
      obtain ⟨rfl, rfl⟩ := hout
      have hnD : ¬ D i := fun hD => by
        have := I.sub i ((List.getElem?_eq_some_iff.1 ho).1) hD
        rw [hi] at this; cases this
      have old : ∀ j, Nat.testBit (bitOr done i) j = true → j ≠ i → Nat.testBit done j = true := fun j hj hne => (bits_bitOr.1 hj).resolve_right hne
      refine advance hw hN (nu := fun j => if j = i then H.next else nu j) (ob := fun j => if j = i then obj else ob j) (vl := fun j => if j = i then v else vl j) { I with
        run := hrun
        s1 := fun j oj hj hoj hcj => ?_
        s2 := fun j oj hj hoj h0 h1 => ?_
        fr := fun j hj => by rw [bits_zero] at hj; cases hj
        sub := fun j hj hD => bits_bitOr.2 (.inl (I.sub j hj hD))
        hr := I.hr.ghost obj
        ext := I.ext.ghostNew I.hr obj
        mkI := fun j oj hj hoj hcj => ?_
        mkJ := fun j k oj ok hj hoj hcj hk hok hck e => ?_ }
      · rcases bits_bitOr.1 hj with hj | rfl
        · exact I.s1 j oj hj hoj hcj
        · rw [ho] at hoj; obtain rfl := Option.some.inj hoj; rw [hc] at hcj; cases hcj
      · rcases bits_bitOr.1 hj with hj | rfl
        · exact I.s2 j oj hj hoj h0 h1
        · rw [ho] at hoj; obtain rfl := Option.some.inj hoj; exact absurd hc h1
      · by_cases hji : j = i
        · subst hji
          rw [ho] at hoj; obtain rfl := Option.some.inj hoj
          simp only [if_true]
          refine ⟨anc, ha, I.ext.nxt, by rw [next_new]; omega, hguard, ?_, fun d hd => slot ho hd hrun, fun _ => ⟨?_, fun x hx => ?_⟩⟩
          · rw [At_fixed hw hN I.run hsub]; exact hmat
          · cases hp : φ H.next with
            | none => rfl
            | some c => exact absurd (I.hr.dom _ _ hp) (Nat.lt_irrefl _)
          · rcases get_new hx with ⟨_, e⟩ | ⟨e, _⟩
            · exact e.symm
            · exact absurd rfl e
        · obtain ⟨anc', k1, k2, k3, k4, k5, k6, k7⟩ := I.mkI j oj (old j hj hji) hoj hcj
          simp only [if_neg hji]
          refine ⟨anc', k1, k2, by rw [next_new]; omega, k4, k5, k6, fun hD => ⟨(k7 hD).1, fun x hx => ?_⟩⟩
          rcases get_new hx with ⟨e, _⟩ | ⟨_, e⟩
          · omega
          · exact (k7 hD).2 x e
      · by_cases hji : j = i <;> by_cases hki : k = i
        · rw [hji, hki]
        · obtain ⟨_, _, _, k3, _⟩ := I.mkI k ok (old k hk hki) hok hck
          simp only [if_pos hji, if_neg hki] at e; omega
        · obtain ⟨_, _, _, k3, _⟩ := I.mkI j oj (old j hj hji) hoj hcj
          simp only [if_neg hji, if_pos hki] at e; omega
        · simp only [if_neg hji, if_neg hki] at e
          exact I.mkJ j k oj ok (old j hj hji) hoj hcj (old k hk hki) hok hck e
end
end Go.Fx

/-! The simulation of a region that draws its order. -/
namespace Go.Fx
set_option linter.unusedVariables false
set_option linter.unusedSimpArgs false

/-- what has been listed -/
def DL (listed : Array Bool) (i : Nat) : Prop := listed.getD i false = true
theorem DL_lt {listed : Array Bool} {i : Nat} (h : DL listed i) : i < listed.size := by
  unfold DL at h
  rcases Nat.lt_or_ge i listed.size with hl | hl
  · exact hl
  · rw [Array.getD_eq_getD_getElem?, Array.getElem?_eq_none hl] at h; cases h
theorem DL_set {listed : Array Bool} {i j : Nat} (hi : i < listed.size) : DL (listed.setIfInBounds i true) j ↔ j = i ∨ DL listed j := by
  unfold DL
  rw [Array.getD_eq_getD_getElem?, Array.getD_eq_getD_getElem?]
  by_cases h : j = i
  · subst h; simp [hi]
  · rw [Array.getElem?_setIfInBounds_ne (Ne.symm h)]; simp [h]
theorem ready_inv {ops : Array Oper} {listed : Array Bool} {i : Nat} (hz : listed.size = ops.size) (h : i ∈ Region.ready .any ops listed) : ∃ o, ops[i]? = some o ∧ i < listed.size ∧ ¬ DL listed i ∧ ∀ j ∈ predsO o.after.toList, DL listed j := by
  unfold Region.ready at h
  rw [List.mem_filter, List.mem_range, Bool.and_eq_true] at h
  obtain ⟨h1, h2, h3⟩ := h
  have hi : i < listed.size := by omega
  refine ⟨ops[i], by simp [h1], hi, ?_, fun j hj => ?_⟩
  · unfold DL
    rw [Array.getD_eq_getD_getElem?] at h2 ⊢
    rw [Array.getElem?_eq_getElem hi] at h2 ⊢
    simp at h2 ⊢; exact h2
  · obtain ⟨e, he, hb, rfl⟩ := predsO_mem.1 hj
    rw [Array.getElem?_eq_getElem h1] at h3
    simp only [Option.map_some, Option.getD_some] at h3
    have := (Array.all_eq_true_iff_forall_mem.1 h3) e (by simpa using he)
    rw [hb] at this
    simpa [DL] using this
theorem ready_of {ops : Array Oper} {listed : Array Bool} {i : Nat} {o : Oper} (hz : listed.size = ops.size) (ho : ops[i]? = some o) (hn : ¬ DL listed i) (hp : ∀ j ∈ predsO o.after.toList, DL listed j) : i ∈ Region.ready .any ops listed := by
  have hi := (Array.getElem?_eq_some_iff.1 ho).1
  unfold Region.ready
  rw [List.mem_filter, List.mem_range, Bool.and_eq_true]
  refine ⟨hi, ?_, ?_⟩
  · unfold DL at hn
    have hl : i < listed.size := by omega
    rw [Array.getD_eq_getD_getElem?, Array.getElem?_eq_getElem hl] at hn ⊢
    simp at hn ⊢; exact hn
  · rw [ho]
    simp only [Option.map_some, Option.getD_some]
    rw [Array.all_eq_true_iff_forall_mem]
    intro e he
    cases hb : Region.binds .any e with
    | false => rfl
    | true => have := hp e.on (predsO_mem.2 ⟨e, by simpa using he, hb, rfl⟩); simpa [DL] using this
/-- how many are left -/
def left (ops : Array Oper) (listed : Array Bool) : Nat := ((List.range ops.size).filter fun i => !listed.getD i true).length
theorem filter_lt {α : Type} {p q : α → Bool} : ∀ {l : List α}, (∀ x ∈ l, q x = true → p x = true) → ∀ {i}, i ∈ l → p i = true → q i = false → (l.filter q).length < (l.filter p).length
  | [], _, i, hi, _, _ => by cases hi
  | a :: l, h, i, hi, hp, hq => by
    have hle : (l.filter q).length ≤ (l.filter p).length := by
      clear hi hp hq
      induction l with
      | nil => exact Nat.le_refl _
      | cons b l ih =>
        have hb := h b (by simp)
        have ih := ih (fun x hx => h x (by simp at hx ⊢; rcases hx with rfl | hx; exact .inl rfl; exact .inr (.inr hx)))
        rw [List.filter_cons, List.filter_cons]
        cases hq : q b with
        | true => rw [hb hq]; simp; exact ih
        | false => cases p b <;> simp <;> omega
    rw [List.filter_cons, List.filter_cons]
    rcases List.mem_cons.1 hi with rfl | hi
    · rw [hp, hq]; simp; omega
    · have := filter_lt (fun x hx => h x (List.mem_cons_of_mem _ hx)) hi hp hq
      cases hqa : q a with
      | true => rw [h a (List.mem_cons_self ..) hqa]; simp; exact this
      | false => cases p a <;> simp <;> omega
theorem left_set {ops : Array Oper} {listed : Array Bool} {i : Nat} (hz : listed.size = ops.size) (hi : i < listed.size) (hn : ¬ DL listed i) : left ops (listed.setIfInBounds i true) < left ops listed := by
  unfold left
  refine filter_lt (i := i) (fun x hx h => ?_) (List.mem_range.2 (by omega)) ?_ ?_
  · rw [Array.getD_eq_getD_getElem?] at h ⊢
    by_cases hxi : x = i
    · subst hxi; simp [hi] at h
    · rw [Array.getElem?_setIfInBounds_ne (Ne.symm hxi)] at h; exact h
  · unfold DL at hn
    rw [Array.getD_eq_getD_getElem?, Array.getElem?_eq_getElem hi] at hn ⊢
    simp at hn ⊢; exact hn
  · rw [Array.getD_eq_getD_getElem?]; simp [hi]

section
variable {P : Program} {call : CallT} {N mask : Nat} {all : List Oper} {ancs : List Nat} {tsF : VT} {HF : Hp} {φ0 : Nat → Option (Blk × Nat)} {H0 : Hp} {w0 : World} {a0 : Act}

/-- what an operation reads stands for what the run reads -/
theorem reads {D : Nat → Prop} {l : List It} {done opn fresh eff : Nat} {ts : VT} {H : Hp} {nu : Nat → Nat} {ob : Nat → AObj} {vl : Nat → AV} {φ : Nat → Option (Blk × Nat)} {a : Act} {w : World}
    (I : Inv P call N mask all ancs tsF HF φ0 H0 w0 a0 D l done opn fresh eff ts H nu ob vl φ a w)
    (hst : ∀ t v, (∀ j, (t, j) ∉ writersOf all 0) → evC (varT N mask t) [] tsF = some v → Rel φ0 v (a0.eval (.tmp t))) {anc : Nat} (ha : ∀ u, Nat.testBit anc u = true → D u) :
    ∀ y u, At (resD N mask anc (writersOf all 0)) [] tsF y = some u → Rel φ u (a.eval y) := by
  intro y u e
  have e : evC (resD N mask anc (writersOf all 0) y) [] tsF = some u := e
  cases y with
  | tmp t =>
    rw [resD_tmp] at e
    cases hl : lookW t (writersOf all 0) with
    | some j =>
      rw [hl] at e
      simp only at e
      cases hb : Nat.testBit anc j with
      | false => rw [hb] at e; cases e
      | true =>
        rw [hb] at e
        obtain ⟨_, o, h1, h2⟩ := writersOf_mem (lookW_mem hl)
        rw [Nat.sub_zero] at h1
        exact I.rel j o t u (ha j hb) h1 h2 e
    | none =>
      rw [hl] at e
      simp only at e
      rw [I.old t (lookW_none hl)]
      exact (hst t u (lookW_none hl) e).mono I.ext.sub
  | const cv =>
    have e' : resD N mask anc (writersOf all 0) (.const cv) = match ofConst cv with | some a => .cst a | none => .bad := rfl
    rw [e'] at e
    cases hc : ofConst cv with
    | none => rw [hc] at e; cases e
    | some b => rw [hc] at e; obtain rfl := Option.some.inj (show some b = some u from e); exact (ofConst_rel hc).1
  | func f =>
    obtain rfl := Option.some.inj (show some (AV.func (.func f) .nil .nil) = some u from e)
    exact .func .nil .nil
  | global g => cases e

theorem put_rel {D : Nat → Prop} {l : List It} {done opn fresh eff : Nat} {ts : VT} {H : Hp} {nu : Nat → Nat} {ob : Nat → AObj} {vl : Nat → AV} {φ ψ : Nat → Option (Blk × Nat)} {a : Act} {w : World} (hw : onceW N (writersOf all 0) = true)
    (I : Inv P call N mask all ancs tsF HF φ0 H0 w0 a0 D l done opn fresh eff ts H nu ob vl φ a w) {i : Nat} {o : Oper} {v : AV} {cv : Value} (ho : all[i]? = some o) (hs : ∀ i b, φ i = some b → ψ i = some b) (r : Rel ψ v cv) (hv : ∀ d, o.dst = some d → getP (posOf 24 d) tsF = some v) :
    (∀ j oj d u, (j = i ∨ D j) → all[j]? = some oj → oj.dst = some d → getP (posOf 24 d) tsF = some u → Rel ψ u ((a.put o.dst cv).eval (.tmp d))) ∧
    (∀ t, (∀ j, (t, j) ∉ writersOf all 0) → (a.put o.dst cv).eval (.tmp t) = a0.eval (.tmp t)) ∧ N ≤ (a.put o.dst cv).tmps.size ∧ (a.put o.dst cv).defers = a0.defers := by
  refine ⟨fun j oj d u hD hoj hd hu => ?_, fun t ht => ?_, by rw [put_size]; exact I.size, by rw [put_defers]; exact I.defers⟩
  · have hm := mem_writersOf (i := 0) hoj hd
    rw [Nat.zero_add] at hm
    by_cases hji : j = i
    · subst hji
      rw [ho] at hoj; obtain rfl := Option.some.inj hoj
      rw [hd, eval_put_same (Nat.lt_of_lt_of_le ((onceW_spec hw).1 d j hm) I.size)]
      rw [hv d hd] at hu; obtain rfl := Option.some.inj hu
      exact r
    · have hDj := hD.resolve_left hji
      cases hdo : o.dst with
      | none => exact (I.rel j oj d u hDj hoj hd hu).mono hs
      | some d' =>
        have hm' := mem_writersOf (i := 0) ho hdo
        rw [Nat.zero_add] at hm'
        rw [eval_put_ne]
        · exact (I.rel j oj d u hDj hoj hd hu).mono hs
        · rintro rfl; exact hji ((onceW_spec hw).2 d j i hm hm')
  · cases hdo : o.dst with
    | none => exact I.old t ht
    | some d' =>
      have hm' := mem_writersOf (i := 0) ho hdo
      rw [eval_put_ne]
      · exact I.old t ht
      · rintro rfl; exact ht _ hm'
end
end Go.Fx

/-! The simulation. -/
namespace Go.Fx
set_option linter.unusedVariables false
set_option linter.unusedSimpArgs false

section
variable {P : Program} {call : CallT} {N mask : Nat} {all : List Oper} {ancs : List Nat} {tsF : VT} {HF : Hp} {φ0 : Nat → Option (Blk × Nat)} {H0 : Hp} {w0 : World} {a0 : Act} {ops : Array Oper} {Q : Exit → Act → World → Prop}

/-- what holds when the plan's operations have all run -/
structure Done (P : Program) (call : CallT) (N mask : Nat) (all : List Oper) (tsF : VT) (HF : Hp) (φ0 : Nat → Option (Blk × Nat)) (H0 : Hp) (w0 : World) (a0 : Act) (φ : Nat → Option (Blk × Nat)) (a : Act) (w : World) : Prop where
  hr : HR φ HF w
  ext : Ext φ0 H0 w0 φ HF w
  rt : RT N mask φ tsF a
  reads : ∀ anc, (∀ u, Nat.testBit anc u = true → u < all.length) → ∀ y u, At (resD N mask anc (writersOf all 0)) [] tsF y = some u → Rel φ u (a.eval y)
  size : N ≤ a.tmps.size
  defers : a.defers = a0.defers

theorem sim (hw : onceW N (writersOf all 0) = true) (hN : N ≤ 65536) (hs : Sound P call) (hanc : ancsOf ops.toList [] = some ancs) (hall : ∀ (i : Nat) (o : Oper), all[i]? = some o → ops[i]? = some o) (hlen : all.length ≤ ops.size)
    (hst : ∀ t v, (∀ j, (t, j) ∉ writersOf all 0) → evC (varT N mask t) [] tsF = some v → Rel φ0 v (a0.eval (.tmp t)))
    (hlast : ∀ i o m, all.length ≤ i → ops[i]? = some o → ancs[i]? = some m → ∀ j, j < all.length → Nat.testBit m j = true)
    (hEnd : ∀ fuel listed φ a w, listed.size = ops.size → Closed ops.toList (DL listed) → left ops listed ≤ fuel → (∀ i, DL listed i ↔ i < all.length) → Done P call N mask all tsF HF φ0 H0 w0 a0 φ a w → wpAny P .any ops Q fuel listed a w) :
    ∀ (fuel : Nat) (listed : Array Bool) {l : List It} {done opn fresh eff : Nat} {ts : VT} {H : Hp} {nu : Nat → Nat} {ob : Nat → AObj} {vl : Nat → AV} {φ : Nat → Option (Blk × Nat)} {a : Act} {w : World},
    listed.size = ops.size → Closed ops.toList (DL listed) → (∀ i, DL listed i → i < all.length) → left ops listed ≤ fuel → Seg P all l →
    Inv P call N mask all ancs tsF HF φ0 H0 w0 a0 (DL listed) l done opn fresh eff ts H nu ob vl φ a w → wpAny P .any ops Q fuel listed a w := by
  -- when all have run
  have full : ∀ {fuel : Nat} {listed : Array Bool} {l : List It} {done opn fresh eff : Nat} {ts : VT} {H : Hp} {nu : Nat → Nat} {ob : Nat → AObj} {vl : Nat → AV} {φ : Nat → Option (Blk × Nat)} {a : Act} {w : World},
      listed.size = ops.size → Closed ops.toList (DL listed) → (∀ i, DL listed i → i < all.length) → left ops listed ≤ fuel → Seg P all l →
      Inv P call N mask all ancs tsF HF φ0 H0 w0 a0 (DL listed) l done opn fresh eff ts H nu ob vl φ a w → (∀ i, i < all.length → DL listed i) → wpAny P .any ops Q fuel listed a w := by
    intro fuel listed l done opn fresh eff ts H nu ob vl φ a w hz hcl hlt hf hseg I hfull
    have hl : l = [] := by
      cases l with
      | nil => rfl
      | cons it l =>
        cases it with
        | ck i => exact hseg.elim
        | ex i =>
          obtain ⟨o, h1, h2, h3⟩ := hseg
          have hi := (List.getElem?_eq_some_iff.1 h1).1
          have hd := I.sub i hi (hfull i hi)
          cases I.run with
          | eff _ _ hn => rw [hd] at hn; cases hn
          | look _ _ hn => rw [hd] at hn; cases hn
          | mk _ _ hn => rw [hd] at hn; cases hn
    subst hl
    have hH : H = HF := by cases I.run; rfl
    subst hH
    refine hEnd fuel listed φ a w hz hcl hf (fun i => ⟨hlt i, hfull i⟩) ⟨I.hr, I.ext, fun t v e => ?_, fun anc ha => reads I hst fun u hu => hfull u (ha u hu), I.size, I.defers⟩
    cases hl : lookW t (writersOf all 0) with
    | some j =>
      obtain ⟨_, o, h1, h2⟩ := writersOf_mem (lookW_mem hl)
      rw [Nat.sub_zero] at h1
      exact I.rel j o t v (hfull j (List.getElem?_eq_some_iff.1 h1).1) h1 h2 (varT_some e).2.2
    | none =>
      rw [I.old t (lookW_none hl)]
      exact (hst t v (lookW_none hl) e).mono I.ext.sub
  intro fuel
  induction fuel with
  | zero =>
    intro listed l done opn fresh eff ts H nu ob vl φ a w hz hcl hlt hf hseg I
    refine full hz hcl hlt hf hseg I fun i hi => ?_
    by_cases h : DL listed i
    · exact h
    · exfalso
      have := left_set (ops := ops) hz (i := i) (by omega) h
      omega
  | succ fuel ih =>
    intro listed l done opn fresh eff ts H nu ob vl φ a w hz hcl hlt hf hseg I
    by_cases hfull : ∀ i, i < all.length → DL listed i
    · exact full hz hcl hlt hf hseg I hfull
    have hspec := (ancsOf_spec hanc).2
    simp only [List.length_nil, Nat.zero_add] at hspec
    refine ⟨fun hr => ?_, fun i hi => ?_⟩
    · exfalso
      obtain ⟨i, ⟨h1, h2⟩, h3⟩ := least (p := fun i => i < all.length ∧ ¬ DL listed i) (by
        refine Classical.byContradiction fun hc => hfull fun i hi => Classical.byContradiction fun hn => hc ⟨i, hi, hn⟩)
      have hio : i < ops.size := by omega
      obtain ⟨m, k1, k2, k3⟩ := hspec i ops[i] (by simp [hio])
      have : i ∈ Region.ready .any ops listed := ready_of hz (o := ops[i]) (by simp [hio]) h2 fun j hj => by
        have hji := k2 j hj
        exact Classical.byContradiction fun hn => by have := h3 j ⟨by omega, hn⟩; omega
      rw [hr] at this; cases this
    · obtain ⟨o, hio, hil, hnD, hp⟩ := ready_inv hz hi
      obtain ⟨m, hm, k2, k3⟩ := hspec i o (by simpa using hio)
      have hsub := anc_sub hanc hcl i o m (by simpa using hio) hm hp
      have hia : i < all.length := by
        rcases Nat.lt_or_ge i all.length with h | h
        · exact h
        · exact absurd (fun j hj => hsub j (hlast i o m h hio hm j hj)) hfull
      have hao : all[i]? = some o := by
        have h := hall i all[i] (by simp [hia])
        rw [hio] at h; rw [Option.some.inj h]; simp [hia]
      have hD' : ∀ j, DL (listed.setIfInBounds i true) j ↔ j = i ∨ DL listed j := fun j => DL_set hil
      have hz' : (listed.setIfInBounds i true).size = ops.size := by simp [hz]
      have hcl' : Closed ops.toList (DL (listed.setIfInBounds i true)) := by
        intro j oj hj hoj k hk
        rcases (hD' j).1 hj with rfl | hj
        · rw [show ops.toList[j]? = some o by simpa using hio] at hoj
          obtain rfl := Option.some.inj hoj
          exact (hD' k).2 (.inr (hp k hk))
        · exact (hD' k).2 (.inr (hcl j oj hj hoj k hk))
      have hcla : Closed all (DL (listed.setIfInBounds i true)) := fun j oj hj hoj => hcl' j oj hj (by simpa using hall j oj hoj)
      have hlt' : ∀ j, DL (listed.setIfInBounds i true) j → j < all.length := fun j hj => by
        rcases (hD' j).1 hj with rfl | hj
        · exact hia
        · exact hlt j hj
      have hf' : left ops (listed.setIfInBounds i true) ≤ fuel := by
        have := left_set (ops := ops) hz hil hnD; omega
      have hρ := reads I hst hsub
      -- is it done in the plan?
      have hdone : Nat.testBit done i = true ∨ ∃ l', l = .ex i :: l' := by
        cases hd : Nat.testBit done i with
        | true => exact .inl rfl
        | false =>
          right
          cases l with
          | nil =>
            obtain ⟨anc', h1, h2⟩ := later I.run i hia hd
            cases I.run with
            | nil hfulld _ => rw [hfulld, bits_full, decide_eq_false_iff_not] at hd; exact absurd hia hd
          | cons it l' =>
            cases it with
            | ck e => exact hseg.elim
            | ex e =>
              obtain ⟨oe, e1, e2, e3⟩ := hseg
              by_cases hie : i = e
              · subst hie; exact ⟨l', rfl⟩
              · exfalso
                have key : ∀ {opn' fresh' eff' : Nat} {ts' : VT} {H' : Hp}, Runs P call N mask all ancs l' (bitOr done e) opn' fresh' (bitOr eff' e) ts' H' tsF HF → Nat.testBit done e = false → False := by
                  intro opn' fresh' eff' ts' H' hrun hne
                  obtain ⟨anc', h1, h2⟩ := later hrun i hia (by rw [testBit_bitOr, hd, Bool.false_or, decide_eq_false_iff_not]; exact hie)
                  rw [hm] at h1; obtain rfl := Option.some.inj h1
                  have := I.sub e (List.getElem?_eq_some_iff.1 e1).1 (hsub e (h2 e (bits_bitOr.2 (.inr rfl))))
                  rw [hne] at this; cases this
                cases I.run with
                | eff _ _ hne _ _ _ _ _ _ hrun => exact key hrun hne
                | look h1 _ _ _ _ h2 => rw [e1] at h1; obtain rfl := Option.some.inj h1; exact e2 h2
                | mk h1 _ _ _ _ h2 => rw [e1] at h1; obtain rfl := Option.some.inj h1; exact e3 h2
      by_cases hc0 : clsO P o = 0
      · -- a look
        have hdi : Nat.testBit done i = true := by
          rcases hdone with h | ⟨l', rfl⟩
          · exact h
          · obtain ⟨o', e1, e2, e3⟩ := hseg
            rw [hao] at e1; obtain rfl := Option.some.inj e1; exact absurd hc0 e2
        have hopn : Nat.testBit opn i = true := by
          rcases I.s1 i o hdi hao hc0 with h | ⟨e, me, h1, h2, h3⟩
          · exact h
          · exfalso
            have hDe := I.effD e h1
            have hel := hlt e hDe
            have heo : ops.toList[e]? = some ops[e] := by simp [show e < ops.size by omega]
            exact hnD (anc_sub hanc hcl e ops[e] me heo h2 (fun j hj => hcl e _ hDe heo j hj) i h3)
        have hfresh : subM opn fresh = true := by
          cases l with
          | nil => cases I.run with | nil _ h => exact h
          | cons it l' =>
            cases it with
            | ck e => exact hseg.elim
            | ex e =>
              obtain ⟨oe, e1, e2, e3⟩ := hseg
              cases I.run with
              | eff _ _ _ _ _ _ _ h => exact h
              | look h1 _ _ _ _ h2 => rw [e1] at h1; obtain rfl := Option.some.inj h1; exact absurd h2 e2
              | mk h1 _ _ _ _ h2 => rw [e1] at h1; obtain rfl := Option.some.inj h1; exact absurd h2 e3
        obtain ⟨o', anc', v, g1, g2, g3, g4⟩ := I.fr i ((subM_iff.1 hfresh) i hopn)
        rw [hao] at g1; obtain rfl := Option.some.inj g1
        rw [hm] at g2; obtain rfl := Option.some.inj g2
        refine ev_wp hio hall hs I.hr hρ g3 fun ψ cv w' r1 r2 r3 => ?_
        obtain ⟨p1, p2, p3, p4⟩ := put_rel hw I hao r3.sub r1 g4
        refine ih (listed.setIfInBounds i true) hz' hcl' hlt' hf' hseg (nu := nu) (ob := ob) (vl := vl) ⟨I.run, I.s1, I.s2, I.fr, fun j hj hDj => ?_, fun e he => (hD' e).2 (.inr (I.effD e he)), hcla, r2, I.ext.trans r3,
          fun j oj d u hDj => p1 j oj d u ((hD' j).1 hDj), p2, p3, p4, fun j oj hj hoj hcj => ?_, I.mkJ⟩
        · rcases (hD' j).1 hDj with rfl | hDj
          · exact hdi
          · exact I.sub j hj hDj
        · obtain ⟨ac, q1, q2, q3, q4, q5, q6, q7⟩ := I.mkI j oj hj hoj hcj
          refine ⟨ac, q1, q2, q3, q4, q5, q6, fun hn => ?_⟩
          have hn' : ¬ DL listed j := fun h => hn ((hD' j).2 (.inr h))
          refine ⟨?_, (q7 hn').2⟩
          cases hp : ψ (nu j) with
          | none => rfl
          | some c =>
            rcases r3.dom _ _ hp with h | h
            · rw [(q7 hn').1] at h; cases h
            · omega
      · by_cases hc1 : clsO P o = 1
        · -- a maker
          have hdi : Nat.testBit done i = true := by
            rcases hdone with h | ⟨l', rfl⟩
            · exact h
            · obtain ⟨o', e1, e2, e3⟩ := hseg
              rw [hao] at e1; obtain rfl := Option.some.inj e1; exact absurd hc1 e3
          obtain ⟨ac, q1, q2, q3, q4, q5, q6, q7⟩ := I.mkI i o hdi hao hc1
          rw [hm] at q1; obtain rfl := Option.some.inj q1
          obtain ⟨hno, hob⟩ := q7 hnD
          obtain ⟨cv, co, q, hrun, hrel⟩ := q5 φ a w hρ
          have hψ := hrel (upd φ (nu i) ⟨w.heap.size, 0⟩ q) (upd_sub' hno) (upd_same _ _ _ _)
          have hHR := I.hr.mat hno q3 hob hψ.1
          have hExt := I.ext.mat (q := q) (co := co) hno q2
          obtain ⟨p1, p2, p3, p4⟩ := put_rel hw I hao (upd_sub' hno) hψ.2 q6
          have hwant : Region.wanted o (yielded ops a.tmps) = true := by unfold Region.wanted; rw [q4]
          unfold wpOp
          rw [hio]
          simp only
          rw [if_pos hwant]
          left
          unfold Oper.wp
          rw [hrun]
          refine ih (listed.setIfInBounds i true) hz' hcl' hlt' hf' hseg (nu := nu) (ob := ob) (vl := vl) (φ := upd φ (nu i) ⟨w.heap.size, 0⟩ q) ⟨I.run, I.s1, I.s2, I.fr, fun j hj hDj => ?_, fun e he => (hD' e).2 (.inr (I.effD e he)), hcla, hHR, hExt,
            fun j oj d u hDj => p1 j oj d u ((hD' j).1 hDj), p2, p3, p4, fun j oj hj hoj hcj => ?_, I.mkJ⟩
          · rcases (hD' j).1 hDj with rfl | hDj
            · exact hdi
            · exact I.sub j hj hDj
          · obtain ⟨ac', t1, t2, t3, t4, t5, t6, t7⟩ := I.mkI j oj hj hoj hcj
            refine ⟨ac', t1, t2, t3, t4, t5, t6, fun hn => ?_⟩
            have hn' : ¬ DL listed j := fun h => hn ((hD' j).2 (.inr h))
            have hji : j ≠ i := fun h => hn ((hD' j).2 (.inl h))
            refine ⟨?_, (t7 hn').2⟩
            have hne : nu j ≠ nu i := fun e => hji (I.mkJ j i oj o hj hoj hcj hdi hao hc1 e)
            simp only [upd, if_neg hne]
            exact (t7 hn').1
        · -- any other
          have hdi : Nat.testBit done i = false := by
            cases hd : Nat.testBit done i with
            | false => rfl
            | true => exact absurd (I.effD i (I.s2 i o hd hao hc0 hc1)) hnD
          obtain ⟨l', rfl⟩ := hdone.resolve_left (by rw [hdi]; simp)
          cases I.run with
          | look h1 _ _ _ _ h2 => rw [hao] at h1; obtain rfl := Option.some.inj h1; exact absurd h2 hc0
          | mk h1 _ _ _ _ h2 => rw [hao] at h1; obtain rfl := Option.some.inj h1; exact absurd h2 hc1
          | @eff _ _ o' anc' _ _ _ _ _ _ _ H' _ v h1 h2 h3 h4 h5 h6 h7 h8 hE hrun =>
            rw [hao] at h1; obtain rfl := Option.some.inj h1
            rw [hm] at h2; obtain rfl := Option.some.inj h2
            have hv : ∀ d, o.dst = some d → getP (posOf 24 d) tsF = some v := fun d hd => by
              have hmw := mem_writersOf (i := 0) hao hd
              rw [Nat.zero_add] at hmw
              rw [slots_fixed hw hN hrun ((onceW_spec hw).1 d i hmw) fun j' hj' => by rw [(onceW_spec hw).2 d j' i hj' hmw]; exact bits_bitOr.2 (.inr rfl)]
              exact put_get hd
            have hE' := Ev_fixed (At_fixed hw hN I.run h4) hE
            refine ev_wp hio hall hs I.hr hρ hE' fun ψ cv w' r1 r2 r3 => ?_
            obtain ⟨p1, p2, p3, p4⟩ := put_rel hw I hao r3.sub r1 hv
            have oldD : ∀ j, Nat.testBit (bitOr done i) j = true → j ≠ i → Nat.testBit done j = true := fun j hj hne => (bits_bitOr.1 hj).resolve_right hne
            have I' : Inv P call N mask all ancs tsF HF φ0 H0 w0 a0 (DL (listed.setIfInBounds i true)) l' (bitOr done i) (diffM opn m) 0 (bitOr eff i) (putS o v ts) H' nu ob vl ψ (a.put o.dst cv) w' := by
              refine ⟨hrun, fun j oj hj hoj hcj => ?_, fun j oj hj hoj g0 g1 => ?_, (fun j hj => by rw [bits_zero] at hj; cases hj), fun j hj hDj => ?_, fun e he => ?_, hcla, r2, I.ext.trans r3,
                fun j oj d u hDj => p1 j oj d u ((hD' j).1 hDj), p2, p3, p4, fun j oj hj hoj hcj => ?_, fun j k oj ok hj hoj hcj hk hok hck e => ?_⟩
              · have hji : j ≠ i := by rintro rfl; rw [hao] at hoj; obtain rfl := Option.some.inj hoj; exact hc0 hcj
                rcases I.s1 j oj (oldD j hj hji) hoj hcj with g | ⟨e, me, g1, g2, g3⟩
                · cases hb : Nat.testBit m j with
                  | true => exact .inr ⟨i, m, bits_bitOr.2 (.inr rfl), hm, hb⟩
                  | false => left; rw [bits_diff, g, hb]; rfl
                · exact .inr ⟨e, me, bits_bitOr.2 (.inl g1), g2, g3⟩
              · by_cases hji : j = i
                · exact bits_bitOr.2 (.inr hji)
                · exact bits_bitOr.2 (.inl (I.s2 j oj (oldD j hj hji) hoj g0 g1))
              · rcases (hD' j).1 hDj with rfl | hDj
                · exact bits_bitOr.2 (.inr rfl)
                · exact bits_bitOr.2 (.inl (I.sub j hj hDj))
              · rcases bits_bitOr.1 he with he | he
                · exact (hD' e).2 (.inr (I.effD e he))
                · exact (hD' e).2 (.inl he)
              · have hji : j ≠ i := by rintro rfl; rw [hao] at hoj; obtain rfl := Option.some.inj hoj; exact hc1 hcj
                obtain ⟨ac', t1, t2, t3, t4, t5, t6, t7⟩ := I.mkI j oj (oldD j hj hji) hoj hcj
                refine ⟨ac', t1, t2, Nat.lt_of_lt_of_le t3 r3.nxt, t4, t5, t6, fun hn => ?_⟩
                have hn' : ¬ DL listed j := fun h => hn ((hD' j).2 (.inr h))
                obtain ⟨u1, u2⟩ := t7 hn'
                refine ⟨?_, fun x hx => u2 x (r3.ghost _ _ t3 u1 hx)⟩
                cases hp : ψ (nu j) with
                | none => rfl
                | some c =>
                  rcases r3.dom _ _ hp with h | h
                  · rw [u1] at h; cases h
                  · omega
              · have hji : j ≠ i := by rintro rfl; rw [hao] at hoj; obtain rfl := Option.some.inj hoj; exact hc1 hcj
                have hki : k ≠ i := by rintro rfl; rw [hao] at hok; obtain rfl := Option.some.inj hok; exact hc1 hck
                exact I.mkJ j k oj ok (oldD j hj hji) hoj hcj (oldD k hk hki) hok hck e
            obtain ⟨l2, done2, opn2, fresh2, ts2, H2, nu2, ob2, vl2, hseg2, I2⟩ := advance hw hN I'
            exact ih (listed.setIfInBounds i true) hz' hcl' hlt' hf' hseg2 I2
end
end Go.Fx

/-! Regions that draw their order. -/
namespace Go.Fx
set_option linter.unusedVariables false
set_option linter.unusedSimpArgs false

theorem splitL_spec : ∀ {l pre : List Oper} {last : Oper}, splitL l = some (pre, last) → l = pre ++ [last]
  | [], pre, last, h => by cases h
  | [o], pre, last, h => by obtain ⟨rfl, rfl⟩ := Prod.mk.inj (Option.some.inj (show some ([], o) = some (pre, last) from h)); rfl
  | o :: o' :: l, pre, last, h => by
    obtain ⟨p, h1, h2⟩ := map_some (show (splitL (o' :: l)).map (fun p => (o :: p.1, p.2)) = some (pre, last) from h)
    obtain ⟨rfl, rfl⟩ := Prod.mk.inj h2
    obtain ⟨p1, p2⟩ := p
    rw [splitL_spec h1]; rfl

section
variable {P : Program} {N mask : Nat}

theorem left_le (ops : Array Oper) (listed : Array Bool) : left ops listed ≤ ops.size := by
  unfold left
  exact Nat.le_trans (List.length_filter_le _ _) (by simp)

theorem wpAny_end {ops : Array Oper} {Q : Exit → Act → World → Prop} {listed : Array Bool} {a : Act} {w : World} (hz : listed.size = ops.size) (h : ∀ i, i < ops.size → DL listed i) (hq : Q .normal a w) : ∀ fuel, wpAny P .any ops Q fuel listed a w := by
  have hr : Region.ready .any ops listed = [] := by
    cases hc : Region.ready .any ops listed with
    | nil => rfl
    | cons i l =>
      have hi : i ∈ Region.ready .any ops listed := by rw [hc]; exact List.mem_cons_self ..
      obtain ⟨o, h1, h2, h3, _⟩ := ready_inv hz hi
      exact absurd (h i (by omega)) h3
  intro fuel
  cases fuel with
  | zero => exact ⟨hr, hq⟩
  | succ f => exact ⟨fun _ => hq, fun i hi => by rw [hr] at hi; cases hi⟩

/-- a plan's run, for every order -/
theorem plan_ok {call : CallT} {x : XR} {ops : Array Oper} {all : List Oper} {ancs : List Nat} {r fin : BX} {ts : VT} {H : Hp} {k : VT → Hp → XR} {a : Act} {w : World} {φ : Nat → Option (Blk × Nat)} {Q : Exit → Act → World → Prop} {its : List It} (hx : x ≠ .fail) (hs : Sound P call) (hN : N ≤ 65536)
    (hanc : ancsOf ops.toList [] = some ancs) (hw : onceW N (writersOf all 0) = true) (hr : planK P N mask fin all (writersOf all 0) ancs its 0 0 0 0 = some r) (h : runX r call ts H k = x) (hH : HR φ H w) (hR : RT N mask φ ts a) (hz : N ≤ a.tmps.size)
    (hall : ∀ (i : Nat) (o : Oper), all[i]? = some o → ops[i]? = some o) (hlen : all.length ≤ ops.size)
    (hlast : ∀ i o m, all.length ≤ i → ops[i]? = some o → ancs[i]? = some m → ∀ j, j < all.length → Nat.testBit m j = true)
    (hEnd : ∀ tsF HF, runX fin call tsF HF k = x → ∀ fuel listed ψ a' w', listed.size = ops.size → Closed ops.toList (DL listed) → left ops listed ≤ fuel → (∀ i, DL listed i ↔ i < all.length) → Done P call N mask all tsF HF φ H w a ψ a' w' → wpAny P .any ops Q fuel listed a' w') :
    wpAny P .any ops Q ops.size (Array.replicate ops.size false) a w := by
  obtain ⟨tsF, HF, hrun, hfin⟩ := planK_inv hx hr h
  have hno : ∀ i, ¬ DL (Array.replicate ops.size false) i := by
    intro i hi
    unfold DL at hi
    rw [Array.getD_eq_getD_getElem?] at hi
    simp [Array.getElem?_replicate] at hi
    split at hi <;> simp at hi
  have hst : ∀ t v, (∀ j, (t, j) ∉ writersOf all 0) → evC (varT N mask t) [] tsF = some v → Rel φ v (a.eval (.tmp t)) := by
    intro t v hnw e
    refine hR t v ?_
    obtain ⟨g1, g2, g3⟩ := varT_some e
    rw [slots_fixed hw hN hrun g1 fun j hj => absurd hj (hnw j)] at g3
    unfold varT
    rw [(blt_iff _ _).2 g1, g2]; exact g3
  have I : Inv P call N mask all ancs tsF HF φ H w a (DL (Array.replicate ops.size false)) its 0 0 0 0 ts H (fun _ => 0) (fun _ => .map [] 0) (fun _ => .nil) φ a w := by
    refine ⟨hrun, ?_, ?_, ?_, fun i _ hi => absurd hi (hno i), ?_, fun i o hi => absurd hi (hno i), hH, Ext.refl _ _ _, fun i o d v hi => absurd hi (hno i), fun _ _ => rfl, hz, rfl, ?_, ?_⟩
    · intro i o hi; rw [bits_zero] at hi; cases hi
    · intro i o hi; rw [bits_zero] at hi; cases hi
    · intro i hi; rw [bits_zero] at hi; cases hi
    · intro i hi; rw [bits_zero] at hi; cases hi
    · intro i o hi; rw [bits_zero] at hi; cases hi
    · intro i j oi oj hi; rw [bits_zero] at hi; cases hi
  obtain ⟨l2, done2, opn2, fresh2, ts2, H2, nu2, ob2, vl2, hseg, I2⟩ := advance hw hN I
  exact sim hw hN hs hanc hall hlen hst hlast (hEnd tsF HF hfin) ops.size _ (by simp) (fun i o hi => absurd hi (hno i)) (fun i hi => absurd hi (hno i)) (left_le _ _) hseg I2

theorem drawOk (hm : P.follows .mixedOrders = true) (hN : N ≤ 65536) : DrawOk P N mask := by
  intro call x id ops r ts H k a w φ Q hx hs hr h hH hR hz hQ
  refine wp_region_any hm ?_
  have hlike : Like w { w with drawn := w.drawn + 1 } := ⟨rfl, rfl, rfl, rfl⟩
  have hH1 := hH.like hlike
  have hE1 := Ext.like φ H hlike
  unfold drawK at hr
  split at hr
  case h_2 => cases hr
  rename_i ancs pre last hanc hsp
  have hops := splitL_spec hsp
  have hsize : ops.size = pre.length + 1 := by rw [← Array.length_toList, hops]; simp
  have hpre : ∀ (i : Nat) (o : Oper), pre[i]? = some o → ops[i]? = some o := by
    intro i o ho
    have : ops.toList[i]? = some o := by rw [hops, List.getElem?_append_left (List.getElem?_eq_some_iff.1 ho).1]; exact ho
    simpa using this
  have hlst : ops[pre.length]? = some last := by
    have : ops.toList[pre.length]? = some last := by rw [hops]; simp
    simpa using this
  split at hr
  case h_2 => cases hr
  rename_i anc hanc1
  cases hb : Nat.beq anc (allBits pre.length) with
  | true =>
    rw [hb, cond_true] at hr
    obtain ⟨hc, hr⟩ := cond_some hr
    rw [Bool.and_eq_true] at hc
    obtain ⟨hw, hld⟩ := hc
    rw [beq_iff] at hb
    have hbits : ∀ u, Nat.testBit anc u = decide (u < pre.length) := fun u => by rw [hb]; exact bits_full
    refine plan_ok hx hs hN hanc hw hr h hH1 hR hz hpre (by omega) (fun i o m hi hio hmi j hj => ?_) fun tsF HF hfin fuel listed ψ a' w' hz' hcl hf hD Dn => ?_
    · have : i = pre.length := by have := (Array.getElem?_eq_some_iff.1 hio).1; omega
      subst this
      rw [hanc1] at hmi; obtain rfl := Option.some.inj hmi
      rw [hbits, decide_eq_true_eq]; exact hj
    · obtain ⟨v, H', hE, hk⟩ := opD_inv hx (exX_inv hfin)
      have hk : k (putS last v tsF) H' = x := hk
      have hnl : ¬ DL listed pre.length := fun hc => by have := (hD _).1 hc; omega
      cases fuel with
      | zero => have := left_set (ops := ops) hz' (i := pre.length) (by omega) hnl; omega
      | succ f =>
        have hpl : ∀ j ∈ predsO last.after.toList, DL listed j := by
          intro j hj
          obtain ⟨m, _, k2, _⟩ := (ancsOf_spec hanc).2 pre.length last (by simpa using hlst)
          have := k2 j hj
          exact (hD j).2 (by simpa using this)
        refine ⟨fun hrd => ?_, fun i hi => ?_⟩
        · have := ready_of hz' hlst hnl hpl
          rw [hrd] at this; cases this
        · obtain ⟨o, hio, hil, hnD, _⟩ := ready_inv hz' hi
          have hi' : i = pre.length := by
            have h1 : ¬ i < pre.length := fun hc => hnD ((hD i).2 hc)
            omega
          subst hi'
          rw [hlst] at hio; obtain rfl := Option.some.inj hio
          refine ev_wp hlst hpre hs Dn.hr (Dn.reads anc fun u hu => by rw [hbits, decide_eq_true_eq] at hu; exact hu) hE fun χ cv w2 r1 r2 r3 => ?_
          refine wpAny_end (by simp [hz']) (fun j hj => (DL_set hil).2 ?_) ?_ f
          · by_cases hjl : j = pre.length
            · exact .inl hjl
            · exact .inr ((hD j).2 (by omega))
          · refine hQ χ (putS last v tsF) H' _ w2 hk ⟨r2, hE1.trans (Dn.ext.trans r3), fun t u e => ?_, by rw [put_size]; exact Dn.size, by rw [put_defers]; exact Dn.defers⟩
            obtain ⟨g1, g2, g3⟩ := varT_some e
            have hvar : ∀ {ts' : VT}, getP (posOf 24 t) ts' = some u → evC (varT N mask t) [] ts' = some u := fun hg => by
              unfold varT; rw [(blt_iff _ _).2 g1, g2]; exact hg
            unfold putS at g3
            cases hd : last.dst with
            | none =>
              rw [hd] at g3
              exact (Dn.rt t u (hvar g3)).mono r3.sub
            | some d =>
              rw [hd] at g3 hld
              simp only [blt_iff] at g3 hld
              by_cases htd : t = d
              · subst htd
                rw [getP_setP_self] at g3
                obtain rfl := Option.some.inj g3
                rw [eval_put_same (Nat.lt_of_lt_of_le g1 Dn.size)]; exact r1
              · rw [getP_setP_ne _ _ _ _ (fun e => htd (posOf_inj 24 d t (by omega) (by omega) e).symm)] at g3
                rw [eval_put_ne htd]
                exact (Dn.rt t u (hvar g3)).mono r3.sub
  | false =>
    rw [hb, cond_false] at hr
    obtain ⟨hw, hr⟩ := cond_some hr
    refine plan_ok hx hs hN hanc hw hr h hH1 hR hz (fun i o ho => by simpa using ho) (by simp) (fun i o m hi hio => ?_) fun tsF HF hfin fuel listed ψ a' w' hz' hcl hf hD Dn => ?_
    · have := (Array.getElem?_eq_some_iff.1 hio).1
      simp at hi; omega
    · exact wpAny_end hz' (fun i hi => (hD i).2 (by simpa using hi)) (hQ ψ tsF HF a' w' (show k tsF HF = x from hfin) ⟨Dn.hr, hE1.trans Dn.ext, Dn.rt, Dn.size, Dn.defers⟩) fuel
end
end Go.Fx
