import Derived.Test.YtelhhbcccndaaaaGreatDoorXq
/-! Regions that draw their order: plans. -/
namespace Go.Fx
set_option linter.unusedVariables false
set_option linter.unusedSimpArgs false

/-! what lies ahead -/
theorem bits_bitOr {m t u : Nat} : Nat.testBit (bitOr m t) u = true ↔ Nat.testBit m u = true ∨ u = t := by
  rw [testBit_bitOr, Bool.or_eq_true, decide_eq_true_eq]
theorem bits_zero (u : Nat) : Nat.testBit 0 u = false := by simp
theorem subM_iff {a b : Nat} : subM a b = true ↔ ∀ u, Nat.testBit a u = true → Nat.testBit b u = true := by
  unfold subM
  rw [beq_iff]
  show a &&& b = a ↔ _
  constructor
  · intro h u hu
    rw [← h, Nat.testBit_and, Bool.and_eq_true] at hu; exact hu.2
  · intro h
    apply Nat.eq_of_testBit_eq
    intro u
    rw [Nat.testBit_and]
    cases hu : Nat.testBit a u with
    | false => rfl
    | true => rw [h u hu]; rfl
theorem ancOf_spec {ancs : List Nat} : ∀ {js : List Nat} {m : Nat}, ancOf ancs js = some m → (∀ j ∈ js, j < ancs.length) ∧ ∀ u, Nat.testBit m u = true → ∃ j ∈ js, u = j ∨ ∃ mj, ancs[j]? = some mj ∧ Nat.testBit mj u = true
  | [], m, h => by
    obtain rfl := Option.some.inj (show some 0 = some m from h)
    exact ⟨nofun, fun u hu => by rw [bits_zero] at hu; cases hu⟩
  | j :: js, m, h => by
    unfold ancOf at h
    split at h
    · rename_i a m' h1 h2
      obtain rfl := Option.some.inj h
      obtain ⟨g1, g2⟩ := ancOf_spec h2
      have hj := (List.getElem?_eq_some_iff.1 h1).1
      refine ⟨fun i hi => ?_, fun u hu => ?_⟩
      · rcases List.mem_cons.1 hi with rfl | hi
        · exact hj
        · exact g1 i hi
      · have hu : Nat.testBit (bitOr a j ||| m') u = true := hu
        rw [Nat.testBit_or, Bool.or_eq_true] at hu
        rcases hu with hu | hu
        · rcases bits_bitOr.1 hu with hu | hu
          · exact ⟨j, List.mem_cons_self .., .inr ⟨a, h1, hu⟩⟩
          · exact ⟨j, List.mem_cons_self .., .inl hu⟩
        · obtain ⟨i, hi, hh⟩ := g2 u hu
          exact ⟨i, List.mem_cons_of_mem _ hi, hh⟩
    · cases h
/-- the table of what lies ahead -/
theorem ancsOf_spec : ∀ {l : List Oper} {acc ancs : List Nat}, ancsOf l acc = some ancs → (∃ t, ancs = acc ++ t ∧ t.length = l.length) ∧ ∀ i o, l[i]? = some o → ∃ m, ancs[acc.length + i]? = some m ∧ (∀ j ∈ predsO o.after.toList, j < acc.length + i) ∧
      ∀ u, Nat.testBit m u = true → ∃ j ∈ predsO o.after.toList, u = j ∨ ∃ mj, ancs[j]? = some mj ∧ Nat.testBit mj u = true
  | [], acc, ancs, h => by
    obtain rfl := Option.some.inj (show some acc = some ancs from h)
    exact ⟨⟨[], by simp, rfl⟩, fun i o hi => by simp at hi⟩
  | o :: l, acc, ancs, h => by
    unfold ancsOf at h
    split at h
    · rename_i a ha
      obtain ⟨⟨t, ht, htl⟩, h2⟩ := ancsOf_spec h
      obtain ⟨g1, g2⟩ := ancOf_spec ha
      refine ⟨⟨a :: t, by rw [ht]; simp, by simp [htl]⟩, fun i o' hi => ?_⟩
      cases i with
      | zero =>
        simp at hi; subst hi
        refine ⟨a, by rw [ht]; simp, fun j hj => by have := g1 j hj; omega, fun u hu => ?_⟩
        obtain ⟨j, hj, hh⟩ := g2 u hu
        refine ⟨j, hj, hh.imp id fun ⟨mj, k1, k2⟩ => ⟨mj, ?_, k2⟩⟩
        rw [ht, List.append_assoc, List.getElem?_append_left (g1 j hj)]; exact k1
      | succ i =>
        simp at hi
        obtain ⟨m, k1, k2, k3⟩ := h2 i o' hi
        simp only [List.length_append, List.length_cons, List.length_nil] at k1 k2
        exact ⟨m, by rw [show acc.length + (i + 1) = acc.length + (0 + 1) + i by omega]; exact k1, fun j hj => by have := k2 j hj; omega, k3⟩
    · cases h

theorem predsO_mem {es : List Edge} {j : Nat} : j ∈ predsO es ↔ ∃ e ∈ es, Region.binds .any e = true ∧ e.on = j := by
  induction es with
  | nil => simp [predsO]
  | cons e l ih =>
    unfold predsO
    cases h : Region.binds .any e with
    | true =>
      rw [cond_true, List.mem_cons, ih]
      constructor
      · rintro (rfl | ⟨e', h1, h2, h3⟩)
        · exact ⟨e, List.mem_cons_self .., h, rfl⟩
        · exact ⟨e', List.mem_cons_of_mem _ h1, h2, h3⟩
      · rintro ⟨e', h1, h2, h3⟩
        rcases List.mem_cons.1 h1 with rfl | h1
        · exact .inl h3.symm
        · exact .inr ⟨e', h1, h2, h3⟩
    | false =>
      rw [cond_false, ih]
      constructor
      · rintro ⟨e', h1, h2, h3⟩; exact ⟨e', List.mem_cons_of_mem _ h1, h2, h3⟩
      · rintro ⟨e', h1, h2, h3⟩
        rcases List.mem_cons.1 h1 with rfl | h1
        · rw [h] at h2; cases h2
        · exact ⟨e', h1, h2, h3⟩

/-- what is done together with all that lies ahead of it -/
def Closed (l : List Oper) (D : Nat → Prop) : Prop := ∀ i o, D i → l[i]? = some o → ∀ j ∈ predsO o.after.toList, D j
theorem anc_sub {l : List Oper} {ancs : List Nat} (h : ancsOf l [] = some ancs) {D : Nat → Prop} (hc : Closed l D) : ∀ (i : Nat) (o : Oper) (m : Nat), l[i]? = some o → ancs[i]? = some m → (∀ j ∈ predsO o.after.toList, D j) → ∀ u, Nat.testBit m u = true → D u := by
  intro i
  induction i using Nat.strongRecOn with
  | _ i ih =>
    intro o m ho hm hp u hu
    obtain ⟨⟨t, ht, htl⟩, h2⟩ := ancsOf_spec h
    obtain ⟨m', k1, k2, k3⟩ := h2 i o ho
    simp only [List.length_nil, Nat.zero_add] at k1 k2
    rw [hm] at k1; obtain rfl := Option.some.inj k1
    obtain ⟨j, hj, hh⟩ := k3 u hu
    rcases hh with rfl | ⟨mj, g1, g2⟩
    · exact hp _ hj
    · have hlt := (List.getElem?_eq_some_iff.1 g1).1
      simp only [List.nil_append] at ht; subst ht
      have hjl : j < l.length := by omega
      exact ih j (k2 j hj) l[j] mj (by simp [hjl]) g1 (fun j' hj' => hc j l[j] (hp j hj) (by simp [hjl]) j' hj') u g2

/-! writers -/
theorem writersOf_mem : ∀ {l : List Oper} {i d j : Nat}, (d, j) ∈ writersOf l i → i ≤ j ∧ ∃ o, l[j - i]? = some o ∧ o.dst = some d
  | [], i, d, j, h => by cases h
  | o :: l, i, d, j, h => by
    unfold writersOf at h
    split at h
    · rename_i d' hd
      rcases List.mem_cons.1 h with e | e
      · obtain ⟨rfl, rfl⟩ := Prod.mk.inj e
        exact ⟨Nat.le_refl _, o, by simp, hd⟩
      · obtain ⟨h1, o', h2, h3⟩ := writersOf_mem e
        exact ⟨by omega, o', by rw [show j - i = (j - (i + 1)) + 1 by omega]; exact h2, h3⟩
    · obtain ⟨h1, o', h2, h3⟩ := writersOf_mem h
      exact ⟨by omega, o', by rw [show j - i = (j - (i + 1)) + 1 by omega]; exact h2, h3⟩
theorem mem_writersOf : ∀ {l : List Oper} {i j d : Nat} {o : Oper}, l[j]? = some o → o.dst = some d → (d, i + j) ∈ writersOf l i
  | [], i, j, d, o, h, hd => by simp at h
  | o' :: l, i, j, d, o, h, hd => by
    unfold writersOf
    cases j with
    | zero => simp at h; subst h; rw [hd]; exact List.mem_cons_self ..
    | succ j =>
      simp at h
      have := mem_writersOf (i := i + 1) h hd
      rw [show i + 1 + j = i + (j + 1) by omega] at this
      split
      · exact List.mem_cons_of_mem _ this
      · exact this
theorem lookW_mem {t j : Nat} : ∀ {l : List (Nat × Nat)}, lookW t l = some j → (t, j) ∈ l
  | [], h => by cases h
  | e :: l, h => by
    unfold lookW at h
    cases hb : Nat.beq e.1 t with
    | true => rw [hb, cond_true] at h; rw [beq_iff] at hb; obtain rfl := Option.some.inj h; subst hb; exact List.mem_cons_self ..
    | false => rw [hb, cond_false] at h; exact List.mem_cons_of_mem _ (lookW_mem h)
theorem lookW_none {t : Nat} : ∀ {l : List (Nat × Nat)}, lookW t l = none → ∀ j, (t, j) ∉ l
  | [], h, j, hm => by cases hm
  | e :: l, h, j, hm => by
    unfold lookW at h
    cases hb : Nat.beq e.1 t with
    | true => rw [hb, cond_true] at h; cases h
    | false =>
      rw [hb, cond_false] at h
      rcases List.mem_cons.1 hm with rfl | hm
      · rw [(beq_iff _ _).2 rfl] at hb; cases hb
      · exact lookW_none h j hm
/-- each slot has one writer -/
theorem onceW_spec {N : Nat} : ∀ {l : List (Nat × Nat)}, onceW N l = true → (∀ d j, (d, j) ∈ l → d < N) ∧ ∀ d i j, (d, i) ∈ l → (d, j) ∈ l → i = j
  | [], h => ⟨nofun, nofun⟩
  | e :: l, h => by
    unfold onceW at h
    rw [Bool.and_eq_true, Bool.and_eq_true, blt_iff] at h
    obtain ⟨⟨h1, h2⟩, h3⟩ := h
    obtain ⟨g1, g2⟩ := onceW_spec h3
    have hn : lookW e.1 l = none := by
      cases hl : lookW e.1 l with
      | none => rfl
      | some _ => rw [hl] at h2; cases h2
    refine ⟨fun d j hm => ?_, fun d i j hi hj => ?_⟩
    · rcases List.mem_cons.1 hm with rfl | hm
      · exact h1
      · exact g1 d j hm
    · rcases List.mem_cons.1 hi with hi' | hi' <;> rcases List.mem_cons.1 hj with hj' | hj'
      · rw [← hi'] at hj'; exact (Prod.mk.inj hj').2.symm
      · rw [← hi'] at hn; exact absurd hj' (lookW_none hn j)
      · rw [← hj'] at hn; exact absurd hi' (lookW_none hn i)
      · exact g2 d i j hi' hj'

theorem aeq_eq : ∀ {a b : AV}, aeq a b = true → a = b := by
  intro a
  induction a with
  | nil => intro b h; cases b <;> first | rfl | (simp [aeq] at h)
  | cons a c iha ihc =>
    intro b h
    cases b <;> first | (simp [aeq] at h; done) | skip
    simp only [aeq, Bool.and_eq_true] at h
    rw [iha h.1, ihc h.2]
  | tuple l ih => intro b h; cases b <;> first | (simp [aeq] at h; done) | (rw [ih h])
  | agg l ih => intro b h; cases b <;> first | (simp [aeq] at h; done) | (rw [ih h])
  | func f a c iha ihc =>
    intro b h
    cases b <;> first | (cases f <;> simp [aeq] at h; done) | skip
    rename_i g a' c'
    cases f <;> cases g <;> first | (simp [aeq] at h; done) | skip
    simp only [aeq, Bool.and_eq_true, beq_iff] at h
    obtain ⟨rfl, h1, h2⟩ := h
    rw [iha h1, ihc h2]
  | iface t a ih =>
    intro b h
    cases b <;> first | (simp [aeq] at h; done) | skip
    simp only [aeq, Bool.and_eq_true, beq_iff] at h
    obtain ⟨rfl, h1⟩ := h
    rw [ih h1]
  | map m => intro b h; cases b <;> first | (simp [aeq] at h; done) | skip; simp only [aeq, beq_iff] at h; rw [h]
  | nul k => intro b h; cases b <;> first | (cases k <;> simp [aeq] at h; done) | skip; rename_i k'; cases k <;> cases k' <;> first | rfl | (simp [aeq] at h; done)
  | str s => intro b h; cases b <;> first | (simp [aeq] at h; done) | skip; simp only [aeq] at h; rw [bytesEq_eq, decide_eq_true_eq] at h; rw [h]
  | slice i o n c =>
    intro b h
    cases b <;> first | (simp [aeq] at h; done) | skip
    rename_i j p m d
    simp only [aeq, Bool.and_eq_true, beq_iff] at h
    obtain ⟨⟨⟨rfl, rfl⟩, rfl⟩, h4⟩ := h
    cases c <;> cases d <;> first | rfl | (simp at h4; done) | skip
    simp only [beq_iff] at h4; rw [h4]
  | bool x => intro b h; cases b <;> first | (simp [aeq] at h; done) | skip; simp only [aeq, beq_iff_eq] at h; rw [h]
  | ptr i o => intro b h; cases b <;> first | (simp [aeq] at h; done) | skip; simp only [aeq, Bool.and_eq_true, beq_iff] at h; rw [h.1, h.2]
  | int k n =>
    intro b h
    cases b <;> first | (simp [aeq] at h; done) | skip
    rename_i k' m
    simp only [aeq, Bool.and_eq_true] at h
    have := kn_inj h.1; subst this
    cases n <;> cases m <;> first | (simp at h; done) | skip
    · simp only [beq_iff] at h; rw [h.2]
    · simp only [beq_iff] at h; rw [h.2]
end Go.Fx
