import Derived.Test.YtelhhbcccndaaaaGreatDoorXv
/-! The simulation of a region that draws its order. -/
namespace Go.Fx
set_option linter.unusedVariables false
set_option linter.unusedSimpArgs false

/-- what has been listed -/
def DL (listed : Array Bool) (i : Nat) : Prop := listed.getD i false = true
theorem DL_lt {listed : Array Bool} {i : Nat} (h : DL listed i) : i < listed.size := by
  unfold DL at h
  rcases Nat.lt_or_ge i listed.size with hl | hl
  · exact hl
  · rw [Array.getD_eq_getD_getElem?, Array.getElem?_eq_none hl] at h; cases h
theorem DL_set {listed : Array Bool} {i j : Nat} (hi : i < listed.size) : DL (listed.setIfInBounds i true) j ↔ j = i ∨ DL listed j := by
  unfold DL
  rw [Array.getD_eq_getD_getElem?, Array.getD_eq_getD_getElem?]
  by_cases h : j = i
  · subst h; simp [hi]
  · rw [Array.getElem?_setIfInBounds_ne (Ne.symm h)]; simp [h]
theorem ready_inv {ops : Array Oper} {listed : Array Bool} {i : Nat} (hz : listed.size = ops.size) (h : i ∈ Region.ready .any ops listed) : ∃ o, ops[i]? = some o ∧ i < listed.size ∧ ¬ DL listed i ∧ ∀ j ∈ predsO o.after.toList, DL listed j := by
  unfold Region.ready at h
  rw [List.mem_filter, List.mem_range, Bool.and_eq_true] at h
  obtain ⟨h1, h2, h3⟩ := h
  have hi : i < listed.size := by omega
  refine ⟨ops[i], by simp [h1], hi, ?_, fun j hj => ?_⟩
  · unfold DL
    rw [Array.getD_eq_getD_getElem?] at h2 ⊢
    rw [Array.getElem?_eq_getElem hi] at h2 ⊢
    simp at h2 ⊢; exact h2
  · obtain ⟨e, he, hb, rfl⟩ := predsO_mem.1 hj
    rw [Array.getElem?_eq_getElem h1] at h3
    simp only [Option.map_some, Option.getD_some] at h3
    have := (Array.all_eq_true_iff_forall_mem.1 h3) e (by simpa using he)
    rw [hb] at this
    simpa [DL] using this
theorem ready_of {ops : Array Oper} {listed : Array Bool} {i : Nat} {o : Oper} (hz : listed.size = ops.size) (ho : ops[i]? = some o) (hn : ¬ DL listed i) (hp : ∀ j ∈ predsO o.after.toList, DL listed j) : i ∈ Region.ready .any ops listed := by
  have hi := (Array.getElem?_eq_some_iff.1 ho).1
  unfold Region.ready
  rw [List.mem_filter, List.mem_range, Bool.and_eq_true]
  refine ⟨hi, ?_, ?_⟩
  · unfold DL at hn
    have hl : i < listed.size := by omega
    rw [Array.getD_eq_getD_getElem?, Array.getElem?_eq_getElem hl] at hn ⊢
    simp at hn ⊢; exact hn
  · rw [ho]
    simp only [Option.map_some, Option.getD_some]
    rw [Array.all_eq_true_iff_forall_mem]
    intro e he
    cases hb : Region.binds .any e with
    | false => rfl
    | true => have := hp e.on (predsO_mem.2 ⟨e, by simpa using he, hb, rfl⟩); simpa [DL] using this
/-- how many are left -/
def left (ops : Array Oper) (listed : Array Bool) : Nat := ((List.range ops.size).filter fun i => !listed.getD i true).length
theorem filter_lt {α : Type} {p q : α → Bool} : ∀ {l : List α}, (∀ x ∈ l, q x = true → p x = true) → ∀ {i}, i ∈ l → p i = true → q i = false → (l.filter q).length < (l.filter p).length
  | [], _, i, hi, _, _ => by cases hi
  | a :: l, h, i, hi, hp, hq => by
    have hle : (l.filter q).length ≤ (l.filter p).length := by
      clear hi hp hq
      induction l with
      | nil => exact Nat.le_refl _
      | cons b l ih =>
        have hb := h b (by simp)
        have ih := ih (fun x hx => h x (by simp at hx ⊢; rcases hx with rfl | hx; exact .inl rfl; exact .inr (.inr hx)))
        rw [List.filter_cons, List.filter_cons]
        cases hq : q b with
        | true => rw [hb hq]; simp; exact ih
        | false => cases p b <;> simp <;> omega
    rw [List.filter_cons, List.filter_cons]
    rcases List.mem_cons.1 hi with rfl | hi
    · rw [hp, hq]; simp; omega
    · have := filter_lt (fun x hx => h x (List.mem_cons_of_mem _ hx)) hi hp hq
      cases hqa : q a with
      | true => rw [h a (List.mem_cons_self ..) hqa]; simp; exact this
      | false => cases p a <;> simp <;> omega
theorem left_set {ops : Array Oper} {listed : Array Bool} {i : Nat} (hz : listed.size = ops.size) (hi : i < listed.size) (hn : ¬ DL listed i) : left ops (listed.setIfInBounds i true) < left ops listed := by
  unfold left
  refine filter_lt (i := i) (fun x hx h => ?_) (List.mem_range.2 (by omega)) ?_ ?_
  · rw [Array.getD_eq_getD_getElem?] at h ⊢
    by_cases hxi : x = i
    · subst hxi; simp [hi] at h
    · rw [Array.getElem?_setIfInBounds_ne (Ne.symm hxi)] at h; exact h
  · unfold DL at hn
    rw [Array.getD_eq_getD_getElem?, Array.getElem?_eq_getElem hi] at hn ⊢
    simp at hn ⊢; exact hn
  · rw [Array.getD_eq_getD_getElem?]; simp [hi]

section
variable {P : Program} {call : CallT} {N mask : Nat} {all : List Oper} {ancs : List Nat} {tsF : VT} {HF : Hp} {φ0 : Nat → Option (Nat × Nat)} {H0 : Hp} {w0 : World} {a0 : Act}

/-- what an operation reads stands for what the run reads -/
theorem reads {D : Nat → Prop} {l : List It} {done opn fresh eff : Nat} {ts : VT} {H : Hp} {nu : Nat → Nat} {ob : Nat → AObj} {vl : Nat → AV} {φ : Nat → Option (Nat × Nat)} {a : Act} {w : World}
    (I : Inv P call N mask all ancs tsF HF φ0 H0 w0 a0 D l done opn fresh eff ts H nu ob vl φ a w)
    (hst : ∀ t v, (∀ j, (t, j) ∉ writersOf all 0) → evC (varT N mask t) [] tsF = some v → Rel φ0 v (a0.eval (.tmp t))) {anc : Nat} (ha : ∀ u, Nat.testBit anc u = true → D u) :
    ∀ y u, At (resD N mask anc (writersOf all 0)) [] tsF y = some u → Rel φ u (a.eval y) := by
  intro y u e
  have e : evC (resD N mask anc (writersOf all 0) y) [] tsF = some u := e
  cases y with
  | tmp t =>
    rw [resD_tmp] at e
    cases hl : lookW t (writersOf all 0) with
    | some j =>
      rw [hl] at e
      simp only at e
      cases hb : Nat.testBit anc j with
      | false => rw [hb] at e; cases e
      | true =>
        rw [hb] at e
        obtain ⟨_, o, h1, h2⟩ := writersOf_mem (lookW_mem hl)
        rw [Nat.sub_zero] at h1
        exact I.rel j o t u (ha j hb) h1 h2 e
    | none =>
      rw [hl] at e
      simp only at e
      rw [I.old t (lookW_none hl)]
      exact (hst t u (lookW_none hl) e).mono I.ext.sub
  | const cv =>
    have e' : resD N mask anc (writersOf all 0) (.const cv) = match ofConst cv with | some a => .cst a | none => .bad := rfl
    rw [e'] at e
    cases hc : ofConst cv with
    | none => rw [hc] at e; cases e
    | some b => rw [hc] at e; obtain rfl := Option.some.inj (show some b = some u from e); exact (ofConst_rel hc).1
  | func f =>
    obtain rfl := Option.some.inj (show some (AV.func (.func f) .nil .nil) = some u from e)
    exact .func .nil .nil
  | global g => cases e

theorem put_rel {D : Nat → Prop} {l : List It} {done opn fresh eff : Nat} {ts : VT} {H : Hp} {nu : Nat → Nat} {ob : Nat → AObj} {vl : Nat → AV} {φ ψ : Nat → Option (Nat × Nat)} {a : Act} {w : World} (hw : onceW N (writersOf all 0) = true)
    (I : Inv P call N mask all ancs tsF HF φ0 H0 w0 a0 D l done opn fresh eff ts H nu ob vl φ a w) {i : Nat} {o : Oper} {v : AV} {cv : Value} (ho : all[i]? = some o) (hs : ∀ i b, φ i = some b → ψ i = some b) (r : Rel ψ v cv) (hv : ∀ d, o.dst = some d → getP (posOf 24 d) tsF = some v) :
    (∀ j oj d u, (j = i ∨ D j) → all[j]? = some oj → oj.dst = some d → getP (posOf 24 d) tsF = some u → Rel ψ u ((a.put o.dst cv).eval (.tmp d))) ∧
    (∀ t, (∀ j, (t, j) ∉ writersOf all 0) → (a.put o.dst cv).eval (.tmp t) = a0.eval (.tmp t)) ∧ N ≤ (a.put o.dst cv).tmps.size ∧ (a.put o.dst cv).defers = a0.defers := by
  refine ⟨fun j oj d u hD hoj hd hu => ?_, fun t ht => ?_, by rw [put_size]; exact I.size, by rw [put_defers]; exact I.defers⟩
  · have hm := mem_writersOf (i := 0) hoj hd
    rw [Nat.zero_add] at hm
    by_cases hji : j = i
    · subst hji
      rw [ho] at hoj; obtain rfl := Option.some.inj hoj
      rw [hd, eval_put_same (Nat.lt_of_lt_of_le ((onceW_spec hw).1 d j hm) I.size)]
      rw [hv d hd] at hu; obtain rfl := Option.some.inj hu
      exact r
    · have hDj := hD.resolve_left hji
      cases hdo : o.dst with
      | none => exact (I.rel j oj d u hDj hoj hd hu).mono hs
      | some d' =>
        have hm' := mem_writersOf (i := 0) ho hdo
        rw [Nat.zero_add] at hm'
        rw [eval_put_ne]
        · exact (I.rel j oj d u hDj hoj hd hu).mono hs
        · rintro rfl; exact hji ((onceW_spec hw).2 d j i hm hm')
  · cases hdo : o.dst with
    | none => exact I.old t ht
    | some d' =>
      have hm' := mem_writersOf (i := 0) ho hdo
      rw [eval_put_ne]
      · exact I.old t ht
      · rintro rfl; exact ht _ hm'
end
end Go.Fx
