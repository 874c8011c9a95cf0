import Derived.Test.YtelhhbcccndaaaaGreatDoorXs
/-! What a plan's run tells. -/
namespace Go.Fx
set_option linter.unusedVariables false
set_option linter.unusedSimpArgs false

theorem bits_diff {a b u : Nat} : Nat.testBit (diffM a b) u = (Nat.testBit a u && !(Nat.testBit b u)) := by
  unfold diffM
  show Nat.testBit (a ^^^ (a &&& b)) u = _
  rw [Nat.testBit_xor, Nat.testBit_and]
  cases Nat.testBit a u <;> cases Nat.testBit b u <;> rfl
theorem bits_full {n u : Nat} : Nat.testBit (Nat.sub (Nat.shiftLeft 1 n) 1) u = decide (u < n) := by
  show Nat.testBit ((1 <<< n) - 1) u = _
  rw [Nat.one_shiftLeft, Nat.testBit_two_pow_sub_one]

section
variable {P : Program} {call : CallT} {N mask : Nat} {all : List Oper} {ancs : List Nat}

theorem cls_spec {o : Oper} (h : clsO P o = 0) : match spec P o with | .p1 _ _ | .p2 _ _ _ | .pl _ _ | .l1 _ _ | .l2 _ _ _ | .pick _ _ _ => True | _ => False := by
  unfold clsO at h
  split at h
  · cases h
  · cases h
  · split at h
    all_goals first | (cases h; done) | skip
    all_goals (rename_i e; rw [e]; trivial)
theorem look_val {o : Oper} (h : clsO P o = 0) {ρ : Operand → Option AV} {H : Hp} {r : R} (ho : opA P ρ H o = some r) : ∃ v, r = .val v H := by
  have hc := cls_spec h
  rw [opA_eq] at ho
  cases hs : spec P o with
  | p1 y f => rw [hs] at ho; obtain ⟨a, _, h1⟩ := bind_some (show (ρ y).bind _ = some r from ho); obtain ⟨v, _, rfl⟩ := valO_some h1; exact ⟨v, rfl⟩
  | p2 y z f => rw [hs] at ho; obtain ⟨a, _, h1⟩ := bind_some (show (ρ y).bind _ = some r from ho); obtain ⟨b, _, h2⟩ := bind_some h1; obtain ⟨v, _, rfl⟩ := valO_some h2; exact ⟨v, rfl⟩
  | pl xs f => rw [hs] at ho; obtain ⟨a, _, h1⟩ := bind_some (show (evalAll ρ xs).bind _ = some r from ho); obtain ⟨v, _, rfl⟩ := valO_some h1; exact ⟨v, rfl⟩
  | l1 y f => rw [hs] at ho; obtain ⟨a, _, h1⟩ := bind_some (show (ρ y).bind _ = some r from ho); obtain ⟨v, _, rfl⟩ := valO_some h1; exact ⟨v, rfl⟩
  | l2 y z f => rw [hs] at ho; obtain ⟨a, _, h1⟩ := bind_some (show (ρ y).bind _ = some r from ho); obtain ⟨b, _, h2⟩ := bind_some h1; obtain ⟨v, _, rfl⟩ := valO_some h2; exact ⟨v, rfl⟩
  | pick q y z =>
    rw [hs] at ho
    obtain ⟨a, _, h1⟩ := bind_some (show (ρ q).bind _ = some r from ho)
    split at h1
    · obtain ⟨v, _, rfl⟩ := valO_some h1; exact ⟨v, rfl⟩
    · cases h1
  | _ => rw [hs] at hc; exact hc.elim
theorem look_same {anc : Nat} {o : Oper} {ts : VT} {H H' : Hp} {v : AV} (hc : clsO P o = 0) (h : Ev P call N mask all anc o ts H v H') : H' = H := by
  unfold Ev at h
  split at h
  · obtain ⟨r, h1, h2⟩ := h
    obtain ⟨u, rfl⟩ := look_val hc h1
    exact h2.2
  · obtain ⟨g, u, _, _, h | h⟩ := h
    · obtain ⟨_, r, h1, h2⟩ := h
      obtain ⟨u, rfl⟩ := look_val hc h1
      exact h2.2
    · exact h.2.2

/-- slots whose writers are done stay -/
theorem slots_fixed (hw : onceW N (writersOf all 0) = true) (hN : N ≤ 65536) {l : List It} {done opn fresh eff : Nat} {ts tsF : VT} {H HF : Hp} (h : Runs P call N mask all ancs l done opn fresh eff ts H tsF HF) {t : Nat} (ht : t < N) :
    (∀ j, (t, j) ∈ writersOf all 0 → Nat.testBit done j = true) → getP (posOf 24 t) tsF = getP (posOf 24 t) ts := by
  have put : ∀ {i : Nat} {o : Oper} {done : Nat} {v : AV} {ts : VT}, all[i]? = some o → Nat.testBit done i = false → (∀ j, (t, j) ∈ writersOf all 0 → Nat.testBit done j = true) → getP (posOf 24 t) (putS o v ts) = getP (posOf 24 t) ts := by
    intro i o done v ts ho hi hd
    unfold putS
    split
    · rename_i d hdst
      refine getP_setP_ne _ _ _ _ fun e => ?_
      have hm := mem_writersOf (i := 0) ho hdst
      rw [Nat.zero_add] at hm
      have hlt := (onceW_spec hw).1 d i hm
      have := posOf_inj 24 d t (by omega) (by omega) e
      subst this
      rw [hd i hm] at hi; cases hi
    · rfl
  have up : ∀ {i done : Nat}, (∀ j, (t, j) ∈ writersOf all 0 → Nat.testBit done j = true) → ∀ j, (t, j) ∈ writersOf all 0 → Nat.testBit (bitOr done i) j = true := fun hd j hj => bits_bitOr.2 (.inl (hd j hj))
  induction h with
  | nil _ _ => intro _; rfl
  | look ho _ hi _ _ _ _ _ ih => intro hd; rw [ih (up hd), put ho hi hd]
  | mk ho _ hi _ _ _ _ _ ih => intro hd; rw [ih (up hd), put ho hi hd]
  | eff ho _ hi _ _ _ _ _ _ _ ih => intro hd; rw [ih (up hd), put ho hi hd]
  | ck _ _ _ _ _ _ _ _ _ ih => intro hd; exact ih hd

theorem resD_tmp (anc t : Nat) (wr : List (Nat × Nat)) : resD N mask anc wr (.tmp t) = match lookW t wr with
  | some j => cond (Nat.testBit anc j) (.var (posOf 24 t)) .bad
  | none => varT N mask t := rfl
/-- what an operation reads is there at the plan's end -/
theorem At_fixed (hw : onceW N (writersOf all 0) = true) (hN : N ≤ 65536) {l : List It} {done opn fresh eff anc : Nat} {ts tsF : VT} {H HF : Hp} (h : Runs P call N mask all ancs l done opn fresh eff ts H tsF HF) (ha : subM anc done = true) :
    At (resD N mask anc (writersOf all 0)) [] tsF = At (resD N mask anc (writersOf all 0)) [] ts := by
  funext y
  show evC (resD N mask anc (writersOf all 0) y) [] tsF = evC (resD N mask anc (writersOf all 0) y) [] ts
  cases y with
  | tmp t =>
    rw [resD_tmp]
    cases hl : lookW t (writersOf all 0) with
    | some j =>
      simp only
      cases hb : Nat.testBit anc j with
      | false => rfl
      | true =>
        have hm := lookW_mem hl
        refine slots_fixed hw hN h ((onceW_spec hw).1 t j hm) fun j' hj' => ?_
        rw [(onceW_spec hw).2 t j' j hj' hm]
        exact (subM_iff.1 ha) j hb
    | none =>
      simp only
      unfold varT
      cases hc : (Nat.blt t N && Nat.testBit mask t) with
      | false => rfl
      | true =>
        rw [Bool.and_eq_true, blt_iff] at hc
        exact slots_fixed hw hN h hc.1 fun j' hj' => absurd hj' (lookW_none hl j')
  | const v =>
    have e : resD N mask anc (writersOf all 0) (.const v) = match ofConst v with | some a => .cst a | none => .bad := rfl
    rw [e]
    cases ofConst v <;> rfl
  | func f => rfl
  | global g => rfl
theorem Ev_fixed {anc : Nat} {o : Oper} {ts ts' : VT} {H H' : Hp} {v : AV} (e : At (resD N mask anc (writersOf all 0)) [] ts' = At (resD N mask anc (writersOf all 0)) [] ts) (h : Ev P call N mask all anc o ts H v H') : Ev P call N mask all anc o ts' H v H' := by
  unfold Ev at h ⊢
  rw [e]; exact h

/-- what is not done yet comes behind the effects that are -/
theorem later {l : List It} {done opn fresh eff : Nat} {ts tsF : VT} {H HF : Hp} (h : Runs P call N mask all ancs l done opn fresh eff ts H tsF HF) :
    ∀ i, i < all.length → Nat.testBit done i = false → ∃ anc, ancs[i]? = some anc ∧ ∀ u, Nat.testBit eff u = true → Nat.testBit anc u = true := by
  induction h with
  | nil hd _ => intro i hi hn; rw [hd, bits_full, decide_eq_false_iff_not] at hn; exact absurd hi hn
  | @look j _ _ anc done _ _ _ _ _ _ _ _ _ ho ha hj _ he _ _ _ ih =>
    intro i hi hn
    by_cases hij : i = j
    · subst hij; exact ⟨anc, ha, subM_iff.1 he⟩
    · refine ih i hi ?_
      rw [testBit_bitOr, hn, Bool.false_or, decide_eq_false_iff_not]; exact hij
  | @mk j _ _ anc done _ _ _ _ _ _ _ _ _ ho ha hj _ he _ _ _ ih =>
    intro i hi hn
    by_cases hij : i = j
    · subst hij; exact ⟨anc, ha, subM_iff.1 he⟩
    · refine ih i hi ?_
      rw [testBit_bitOr, hn, Bool.false_or, decide_eq_false_iff_not]; exact hij
  | @eff j _ _ anc done _ _ _ _ _ _ _ _ _ ho ha hj _ he _ _ _ _ _ ih =>
    intro i hi hn
    by_cases hij : i = j
    · subst hij; exact ⟨anc, ha, subM_iff.1 he⟩
    · obtain ⟨a, h1, h2⟩ := ih i hi (by rw [testBit_bitOr, hn, Bool.false_or, decide_eq_false_iff_not]; exact hij)
      exact ⟨a, h1, fun u hu => h2 u (bits_bitOr.2 (.inl hu))⟩
  | ck _ _ _ _ _ _ _ _ _ ih => exact ih
end
end Go.Fx
