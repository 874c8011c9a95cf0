import Derived.Test.YtelhhbcccndaaaaGreatDoorXr
/-! A plan's run. -/
namespace Go.Fx
set_option linter.unusedVariables false
set_option linter.unusedSimpArgs false

def Out (call : CallT) : R → AV → Hp → Prop
  | .val v0 H0, v, H' => v = v0 ∧ H' = H0
  | .enter f args H0, v, H' => call f args H0 = some (v, H')
theorem After.out {call : CallT} {c : K} {x : XR} {r : R} (h : After call c x r) : ∃ v H', Out call r v H' ∧ c v H' = x := by
  cases r with
  | val v H' => exact ⟨v, H', ⟨rfl, rfl⟩, h⟩
  | enter f args H => obtain ⟨v, H', h1, h2⟩ := h; exact ⟨v, H', h1, h2⟩

section
variable (P : Program) (call : CallT) (N mask : Nat) (all : List Oper)
/-- an operation's turn -/
def Ev (anc : Nat) (o : Oper) (ts : VT) (H : Hp) (v : AV) (H' : Hp) : Prop := match o.guard with
  | none => ∃ r, opA P (At (resD N mask anc (writersOf all 0)) [] ts) H o = some r ∧ Out call r v H'
  | some (j, want) => ∃ g u, guardT all j = some g ∧ At (resD N mask anc (writersOf all 0)) [] ts (.tmp g) = some u ∧
    ((u = .bool want ∧ ∃ r, opA P (At (resD N mask anc (writersOf all 0)) [] ts) H o = some r ∧ Out call r v H') ∨ (u ≠ .bool want ∧ v = undefA ∧ H' = H))
noncomputable def putS (o : Oper) (v : AV) (ts : VT) : VT := match o.dst with
  | some d => setP (posOf 24 d) (some v) ts
  | none => ts
/-- a plan's run: what is done, what is open, what is fresh, which effects are done -/
inductive Runs (ancs : List Nat) : List It → (done opn fresh eff : Nat) → VT → Hp → VT → Hp → Prop where
  | nil {done opn fresh eff : Nat} {ts : VT} {H : Hp} : done = Nat.sub (Nat.shiftLeft 1 all.length) 1 → subM opn fresh = true → Runs ancs [] done opn fresh eff ts H ts H
  | look {i : Nat} {l : List It} {o : Oper} {anc done opn fresh eff : Nat} {ts tsF : VT} {H H' HF : Hp} {v : AV} : all[i]? = some o → ancs[i]? = some anc → Nat.testBit done i = false → subM anc done = true → subM eff anc = true →
      clsO P o = 0 → Ev P call N mask all anc o ts H v H' → Runs ancs l (bitOr done i) (bitOr opn i) (bitOr fresh i) eff (putS o v ts) H' tsF HF → Runs ancs (.ex i :: l) done opn fresh eff ts H tsF HF
  | mk {i : Nat} {l : List It} {o : Oper} {anc done opn fresh eff : Nat} {ts tsF : VT} {H H' HF : Hp} {v : AV} : all[i]? = some o → ancs[i]? = some anc → Nat.testBit done i = false → subM anc done = true → subM eff anc = true →
      clsO P o = 1 → Ev P call N mask all anc o ts H v H' → Runs ancs l (bitOr done i) opn 0 eff (putS o v ts) H' tsF HF → Runs ancs (.ex i :: l) done opn fresh eff ts H tsF HF
  | eff {i : Nat} {l : List It} {o : Oper} {anc done opn fresh eff : Nat} {ts tsF : VT} {H H' HF : Hp} {v : AV} : all[i]? = some o → ancs[i]? = some anc → Nat.testBit done i = false → subM anc done = true → subM eff anc = true →
      clsO P o ≠ 0 → clsO P o ≠ 1 → subM opn fresh = true → Ev P call N mask all anc o ts H v H' → Runs ancs l (bitOr done i) (diffM opn anc) 0 (bitOr eff i) (putS o v ts) H' tsF HF → Runs ancs (.ex i :: l) done opn fresh eff ts H tsF HF
  | ck {i d : Nat} {l : List It} {o : Oper} {anc done opn fresh eff : Nat} {ts tsF : VT} {H H' HF : Hp} {v : AV} : all[i]? = some o → ancs[i]? = some anc → Nat.testBit done i = true → subM anc done = true → clsO P o = 0 → o.dst = some d →
      Ev P call N mask all anc o ts H v H' → getP (posOf 24 d) ts = some v → Runs ancs l done opn (bitOr fresh i) eff ts H tsF HF → Runs ancs (.ck i :: l) done opn fresh eff ts H tsF HF
end

section
variable {P : Program} {call : CallT} {N mask : Nat} {all : List Oper} {x : XR} (hx : x ≠ .fail)
include hx
theorem opD_inv {anc : Nat} {o : Oper} {ts : VT} {H : Hp} {c : K} (h : runO (opD P N mask all (writersOf all 0) anc o) call [] ts H c = x) : ∃ v H', Ev P call N mask all anc o ts H v H' ∧ c v H' = x := by
  unfold opD at h
  unfold Ev
  split at h
  · rename_i hg
    obtain ⟨r, h1, h2⟩ := opK_inv hx h
    obtain ⟨v, H', h3, h4⟩ := h2.out
    exact ⟨v, H', by rw [hg]; exact ⟨r, h1, h3⟩, h4⟩
  · rename_i j want hg
    split at h
    · exact absurd h.symm hx
    · rename_i g ht
      obtain ⟨u, h1, h2⟩ := guard_inv hx h
      rcases h2 with ⟨e, h2⟩ | ⟨e, h2⟩
      · obtain ⟨r, h3, h4⟩ := opK_inv hx h2
        obtain ⟨v, H', h5, h6⟩ := h4.out
        exact ⟨v, H', by rw [hg]; exact ⟨g, u, ht, h1, .inl ⟨e, r, h3, h5⟩⟩, h6⟩
      · exact ⟨undefA, H, by rw [hg]; exact ⟨g, u, ht, h1, .inr ⟨e, rfl, rfl⟩⟩, h2⟩

theorem exX_inv {b : BOp} {o : Oper} {rest : BX} {ts : VT} {H : Hp} {k : VT → Hp → XR} (h : runX (.mk (exX b (o.dst.map (posOf 24)) rest)) call ts H k = x) :
    runO b call [] ts H (fun v H' => runX rest call (putS o v ts) H' k) = x := by
  have h : runO b call [] ts H (fun v H' => runX rest call (Option.rec (motive := fun _ => VT) ts (fun p => setP p (some v) ts) (o.dst.map (posOf 24))) H' k) = x := h
  rw [← h]; congr 1; funext v H'; congr 1
  unfold putS
  cases o.dst <;> rfl

theorem planK_inv {fin : BX} {ancs : List Nat} {k : VT → Hp → XR} : ∀ {l : List It} {done opn fresh eff : Nat} {r : BX} {ts : VT} {H : Hp}, planK P N mask fin all (writersOf all 0) ancs l done opn fresh eff = some r → runX r call ts H k = x →
    ∃ tsF HF, Runs P call N mask all ancs l done opn fresh eff ts H tsF HF ∧ runX fin call tsF HF k = x
  | [], done, opn, fresh, eff, r, ts, H, hr, h => by
    unfold planK at hr
    obtain ⟨h1, h2⟩ := cond_some hr
    obtain rfl := Option.some.inj h2
    rw [Bool.and_eq_true, beq_iff] at h1
    exact ⟨ts, H, .nil h1.1 h1.2, h⟩
  | .ex i :: l, done, opn, fresh, eff, r, ts, H, hr, h => by
    unfold planK at hr
    split at hr
    case h_2 => cases hr
    rename_i o anc ho ha
    obtain ⟨h1, hr⟩ := cond_some hr
    simp only [Bool.and_eq_true] at h1
    obtain ⟨⟨h1, h2⟩, h3⟩ := h1
    have h1 : Nat.testBit done i = false := by cases hb : Nat.testBit done i with
      | false => rfl
      | true => rw [hb] at h1; cases h1
    obtain ⟨r', hr', rfl⟩ := map_some hr
    obtain ⟨v, H', h4, h5⟩ := opD_inv hx (exX_inv hx h)
    split at hr'
    · rename_i hc
      obtain ⟨tsF, HF, h6, h7⟩ := planK_inv hr' h5
      exact ⟨tsF, HF, .look ho ha h1 h2 h3 hc h4 h6, h7⟩
    · rename_i hc
      obtain ⟨tsF, HF, h6, h7⟩ := planK_inv hr' h5
      exact ⟨tsF, HF, .mk ho ha h1 h2 h3 hc h4 h6, h7⟩
    · rename_i c0 c1
      obtain ⟨h8, hr'⟩ := cond_some hr'
      obtain ⟨tsF, HF, h6, h7⟩ := planK_inv hr' h5
      exact ⟨tsF, HF, .eff ho ha h1 h2 h3 c0 c1 h8 h4 h6, h7⟩
  | .ck i :: l, done, opn, fresh, eff, r, ts, H, hr, h => by
    unfold planK at hr
    split at hr
    case h_2 => cases hr
    rename_i o anc ho ha
    split at hr
    case h_2 => cases hr
    rename_i d hc hd
    obtain ⟨h1, hr⟩ := cond_some hr
    rw [Bool.and_eq_true] at h1
    obtain ⟨r', hr', rfl⟩ := map_some hr
    obtain ⟨v, H', h4, h5⟩ := opD_inv hx (show runO (opD P N mask all (writersOf all 0) anc o) call [] ts H (fun v H' => optK (getP (posOf 24 d) ts) fun u => ifK (aeq v u) (runX r' call ts H k)) = x from h)
    obtain ⟨u, h6, h7⟩ := optK_inv hx h5
    obtain ⟨h8, h9⟩ := ifK_inv hx h7
    have := aeq_eq h8; subst this
    obtain ⟨tsF, HF, g1, g2⟩ := planK_inv hr' h9
    exact ⟨tsF, HF, .ck ho ha h1.1 h1.2 hc hd h4 h6 g1, g2⟩
end
end Go.Fx
