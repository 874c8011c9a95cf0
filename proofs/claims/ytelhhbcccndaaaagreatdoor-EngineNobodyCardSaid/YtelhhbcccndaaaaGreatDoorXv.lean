import Derived.Test.YtelhhbcccndaaaaGreatDoorXu
/-! The simulation of a region that draws its order: the invariant. -/
namespace Go.Fx
set_option linter.unusedVariables false
set_option linter.unusedSimpArgs false

section
variable {P : Program} {φ : Nat → Option (Nat × Nat)} {H : Hp} {w : World} {call : CallT} {a : Act} {ρA : Operand → Option AV}

theorem op_out {o : Oper} {r : R} {v : AV} {H' : Hp} {K : Act → World → Prop} {Q : Exit → Act → World → Prop} (hs : Sound P call) (h : HR φ H w) (hρ : ∀ x v, ρA x = some v → Rel φ v (a.eval x)) (ho : opA P ρA H o = some r) (ha : Out call r v H')
    (hK : ∀ ψ cv w', Rel ψ v cv → HR ψ H' w' → Ext φ H w ψ H' w' → K (a.put o.dst cv) w') : o.wp P a w K Q := by
  unfold Oper.wp
  cases opA_ok hρ h ho with
  | val n cv w' ψ e hn r1 r2 r3 =>
    obtain ⟨rfl, rfl⟩ := ha
    rw [e]
    rcases hn with rfl | ⟨rfl, rfl⟩
    · exact hK _ _ _ r1 r2 r3
    · exact hK _ _ _ r1 r2 r3
  | enter vs e r1 =>
    rw [e]
    rcases hs _ _ _ _ _ ha φ w vs h r1 with ⟨cv, w', ψ, g1, g2, g3, g4⟩ | ⟨g1, g2⟩
    · rw [g1]; exact hK _ _ _ g2 g3 g4
    · rw [g1]
      refine Calls.mono g2 fun e w' he => ?_
      obtain ⟨cv, ψ, rfl, k1, k2, k3⟩ := he
      exact hK _ _ _ k1 k2 k3

variable {N mask : Nat} {all : List Oper} {ops : Array Oper}
theorem ev_wp {i anc : Nat} {o : Oper} {ts : VT} {v : AV} {H' : Hp} {K : Act → World → Prop} {Q : Exit → Act → World → Prop} (hio : ops[i]? = some o) (hall : ∀ (i : Nat) (o : Oper), all[i]? = some o → ops[i]? = some o) (hs : Sound P call) (hH : HR φ H w)
    (hρ : ∀ y u, At (resD N mask anc (writersOf all 0)) [] ts y = some u → Rel φ u (a.eval y)) (h : Ev P call N mask all anc o ts H v H')
    (hK : ∀ ψ cv w', Rel ψ v cv → HR ψ H' w' → Ext φ H w ψ H' w' → K (a.put o.dst cv) w') : wpOp P ops Q i K a w := by
  unfold wpOp
  rw [hio]
  simp only
  unfold Ev at h
  split at h
  · rename_i hg
    obtain ⟨r, h1, h2⟩ := h
    have hw : Region.wanted o (yielded ops a.tmps) = true := by unfold Region.wanted; rw [hg]
    rw [if_pos hw]
    exact .inl (op_out hs hH hρ h1 h2 hK)
  · rename_i j want hg
    obtain ⟨g, u, ht, hu, h⟩ := h
    have ht' : guardT ops.toList j = some g := by
      unfold guardT at ht ⊢
      obtain ⟨oj, h1, h2⟩ := bind_some ht
      have := hall j oj h1
      rw [show ops.toList[j]? = some oj by simpa using this, Option.bind_some]; exact h2
    have hwant := wanted_of hg ht' (hρ _ _ hu)
    rcases h with ⟨e, r, h1, h2⟩ | ⟨e, rfl, rfl⟩
    · rw [if_pos (hwant.2 e)]; exact .inl (op_out hs hH hρ h1 h2 hK)
    · rw [if_neg (fun hc => e (hwant.1 hc))]
      exact hK φ undef w undef_rel hH (Ext.refl _ _ _)
end

section
variable (P : Program) (call : CallT) (N mask : Nat) (all : List Oper) (ancs : List Nat) (tsF : VT) (HF : Hp) (φ0 : Nat → Option (Nat × Nat)) (H0 : Hp) (w0 : World) (a0 : Act)
/-- the invariant, at a place of the plan -/
structure Inv (D : Nat → Prop) (l : List It) (done opn fresh eff : Nat) (ts : VT) (H : Hp) (nu : Nat → Nat) (ob : Nat → AObj) (vl : Nat → AV) (φ : Nat → Option (Nat × Nat)) (a : Act) (w : World) : Prop where
  run : Runs P call N mask all ancs l done opn fresh eff ts H tsF HF
  s1 : ∀ i o, Nat.testBit done i = true → all[i]? = some o → clsO P o = 0 → Nat.testBit opn i = true ∨ ∃ e m, Nat.testBit eff e = true ∧ ancs[e]? = some m ∧ Nat.testBit m i = true
  s2 : ∀ i o, Nat.testBit done i = true → all[i]? = some o → clsO P o ≠ 0 → clsO P o ≠ 1 → Nat.testBit eff i = true
  fr : ∀ i, Nat.testBit fresh i = true → ∃ o anc v, all[i]? = some o ∧ ancs[i]? = some anc ∧ Ev P call N mask all anc o tsF H v H ∧ ∀ d, o.dst = some d → getP (posOf 24 d) tsF = some v
  sub : ∀ i, i < all.length → D i → Nat.testBit done i = true
  effD : ∀ e, Nat.testBit eff e = true → D e
  closed : Closed all D
  hr : HR φ H w
  ext : Ext φ0 H0 w0 φ H w
  rel : ∀ i o d v, D i → all[i]? = some o → o.dst = some d → getP (posOf 24 d) tsF = some v → Rel φ v (a.eval (.tmp d))
  old : ∀ t, (∀ j, (t, j) ∉ writersOf all 0) → a.eval (.tmp t) = a0.eval (.tmp t)
  size : N ≤ a.tmps.size
  defers : a.defers = a0.defers
  mkI : ∀ i o, Nat.testBit done i = true → all[i]? = some o → clsO P o = 1 → ∃ anc, ancs[i]? = some anc ∧ H0.next ≤ nu i ∧ nu i < H.next ∧ o.guard = none ∧ MatOk P o (At (resD N mask anc (writersOf all 0)) [] tsF) (nu i) (ob i) (vl i) ∧
    (∀ d, o.dst = some d → getP (posOf 24 d) tsF = some (vl i)) ∧ (¬ D i → φ (nu i) = none ∧ ∀ x, H.get (nu i) = some x → x = ob i)
  mkJ : ∀ i j oi oj, Nat.testBit done i = true → all[i]? = some oi → clsO P oi = 1 → Nat.testBit done j = true → all[j]? = some oj → clsO P oj = 1 → nu i = nu j → i = j
end

/-- a place where a segment ends -/
def Seg (P : Program) (all : List Oper) : List It → Prop
  | [] => True
  | .ex i :: _ => ∃ o, all[i]? = some o ∧ clsO P o ≠ 0 ∧ clsO P o ≠ 1
  | .ck _ :: _ => False

section
variable {P : Program} {call : CallT} {N mask : Nat} {all : List Oper} {ancs : List Nat} {tsF : VT} {HF : Hp} {φ0 : Nat → Option (Nat × Nat)} {H0 : Hp} {w0 : World} {a0 : Act}
variable {D : Nat → Prop} {φ : Nat → Option (Nat × Nat)} {a : Act} {w : World}

theorem put_get {o : Oper} {v : AV} {ts : VT} {d : Nat} (h : o.dst = some d) : getP (posOf 24 d) (putS o v ts) = some v := by
  unfold putS; rw [h]; exact getP_setP_self _ _ _

/-- to the end of the segment -/
theorem advance (hw : onceW N (writersOf all 0) = true) (hN : N ≤ 65536) : ∀ {l : List It} {done opn fresh eff : Nat} {ts : VT} {H : Hp} {nu : Nat → Nat} {ob : Nat → AObj} {vl : Nat → AV},
    Inv P call N mask all ancs tsF HF φ0 H0 w0 a0 D l done opn fresh eff ts H nu ob vl φ a w →
    ∃ l' done' opn' fresh' ts' H' nu' ob' vl', Seg P all l' ∧ Inv P call N mask all ancs tsF HF φ0 H0 w0 a0 D l' done' opn' fresh' eff ts' H' nu' ob' vl' φ a w
  | [], done, opn, fresh, eff, ts, H, nu, ob, vl, I => ⟨[], _, _, _, _, _, _, _, _, trivial, I⟩
  | .ck i :: l, done, opn, fresh, eff, ts, H, nu, ob, vl, I => by
    cases I.run with
    | @ck _ d _ o anc _ _ _ _ _ _ _ H' _ v ho ha hd hsub hc hdst hE hg hrun =>
      have hsame := look_same hc hE
      subst hsame
      refine advance hw hN { I with run := hrun, fr := fun j hj => ?_ }
      rcases bits_bitOr.1 hj with hj | rfl
      · exact I.fr j hj
      · refine ⟨o, anc, v, ho, ha, Ev_fixed (At_fixed hw hN hrun hsub) hE, fun d' hd' => ?_⟩
        rw [hdst] at hd'; obtain rfl := Option.some.inj hd'
        have hm := mem_writersOf (i := 0) ho hdst
        rw [Nat.zero_add] at hm
        rw [slots_fixed hw hN hrun ((onceW_spec hw).1 d j hm) fun j' hj' => by rw [(onceW_spec hw).2 d j' j hj' hm]; exact hd]
        exact hg
  | .ex i :: l, done, opn, fresh, eff, ts, H, nu, ob, vl, I => by
    -- a slot's value at the plan's end
    have slot : ∀ {opn' fresh' eff' : Nat} {o : Oper} {v : AV} {H' : Hp} {d : Nat}, all[i]? = some o → o.dst = some d → Runs P call N mask all ancs l (bitOr done i) opn' fresh' eff' (putS o v ts) H' tsF HF → getP (posOf 24 d) tsF = some v := by
      intro opn' fresh' eff' o v H' d ho hdst hrun
      have hm := mem_writersOf (i := 0) ho hdst
      rw [Nat.zero_add] at hm
      rw [slots_fixed hw hN hrun ((onceW_spec hw).1 d i hm) fun j' hj' => by rw [(onceW_spec hw).2 d j' i hj' hm]; exact bits_bitOr.2 (.inr rfl)]
      exact put_get hdst
    have at_tsF : ∀ {opn' fresh' eff' anc : Nat} {o : Oper} {v : AV} {H' : Hp}, subM anc done = true → all[i]? = some o → Nat.testBit done i = false → Runs P call N mask all ancs l (bitOr done i) opn' fresh' eff' (putS o v ts) H' tsF HF →
        At (resD N mask anc (writersOf all 0)) [] tsF = At (resD N mask anc (writersOf all 0)) [] ts := fun hsub _ _ _ => At_fixed hw hN I.run hsub
    cases I.run with
    | eff ho ha h1 h2 h3 h4 h5 h6 h7 hrun => exact ⟨.ex i :: l, _, _, _, _, _, _, _, _, ⟨_, ho, h4, h5⟩, I⟩
    | @look _ _ o anc _ _ _ _ _ _ _ H' _ v ho ha hi hsub hse hc hE hrun =>
      have hsame := look_same hc hE
      subst hsame
      refine advance hw hN (nu := nu) (ob := ob) (vl := vl) { I with
        run := hrun
        s1 := fun j oj hj hoj hcj => ?_
        s2 := fun j oj hj hoj h0 h1 => ?_
        fr := fun j hj => ?_
        sub := fun j hj hD => bits_bitOr.2 (.inl (I.sub j hj hD))
        mkI := fun j oj hj hoj hcj => ?_
        mkJ := fun j k oj ok hj hoj hcj hk hok hck e => ?_ }
      · rcases bits_bitOr.1 hj with hj | rfl
        · exact (I.s1 j oj hj hoj hcj).imp (fun h => bits_bitOr.2 (.inl h)) id
        · exact .inl (bits_bitOr.2 (.inr rfl))
      · rcases bits_bitOr.1 hj with hj | rfl
        · exact I.s2 j oj hj hoj h0 h1
        · rw [ho] at hoj; obtain rfl := Option.some.inj hoj; exact absurd hc h0
      · rcases bits_bitOr.1 hj with hj | rfl
        · exact I.fr j hj
        · exact ⟨o, anc, v, ho, ha, Ev_fixed (At_fixed hw hN I.run hsub) hE, fun d hd => slot ho hd hrun⟩
      · rcases bits_bitOr.1 hj with hj | rfl
        · exact I.mkI j oj hj hoj hcj
        · rw [ho] at hoj; obtain rfl := Option.some.inj hoj; rw [hc] at hcj; cases hcj
      · have h1 : Nat.testBit done j = true := by
          rcases bits_bitOr.1 hj with hj | rfl
          · exact hj
          · rw [ho] at hoj; obtain rfl := Option.some.inj hoj; rw [hc] at hcj; cases hcj
        have h2 : Nat.testBit done k = true := by
          rcases bits_bitOr.1 hk with hk | rfl
          · exact hk
          · rw [ho] at hok; obtain rfl := Option.some.inj hok; rw [hc] at hck; cases hck
        exact I.mkJ j k oj ok h1 hoj hcj h2 hok hck e
    | @mk _ _ o anc _ _ _ _ _ _ _ H' _ v ho ha hi hsub hse hc hE hrun =>
      have hguard : o.guard = none := by
        unfold clsO at hc
        split at hc
        · rename_i hg _; exact hg
        · rename_i hg _; exact hg
        · split at hc <;> cases hc
      have hE' : ∃ r, opA P (At (resD N mask anc (writersOf all 0)) [] ts) H o = some r ∧ Out call r v H' := by
        unfold Ev at hE; rw [hguard] at hE; exact hE
      obtain ⟨r, hr, hout⟩ := hE'
      obtain ⟨_, obj, u, rfl, hmat⟩ := mk_mat hc hr
      obtain ⟨rfl, rfl⟩ := hout
      have hnD : ¬ D i := fun hD => by
        have := I.sub i ((List.getElem?_eq_some_iff.1 ho).1) hD
        rw [hi] at this; cases this
      have old : ∀ j, Nat.testBit (bitOr done i) j = true → j ≠ i → Nat.testBit done j = true := fun j hj hne => (bits_bitOr.1 hj).resolve_right hne
      refine advance hw hN (nu := fun j => if j = i then H.next else nu j) (ob := fun j => if j = i then obj else ob j) (vl := fun j => if j = i then v else vl j) { I with
        run := hrun
        s1 := fun j oj hj hoj hcj => ?_
        s2 := fun j oj hj hoj h0 h1 => ?_
        fr := fun j hj => by rw [bits_zero] at hj; cases hj
        sub := fun j hj hD => bits_bitOr.2 (.inl (I.sub j hj hD))
        hr := I.hr.ghost obj
        ext := I.ext.ghostNew I.hr obj
        mkI := fun j oj hj hoj hcj => ?_
        mkJ := fun j k oj ok hj hoj hcj hk hok hck e => ?_ }
      · rcases bits_bitOr.1 hj with hj | rfl
        · exact I.s1 j oj hj hoj hcj
        · rw [ho] at hoj; obtain rfl := Option.some.inj hoj; rw [hc] at hcj; cases hcj
      · rcases bits_bitOr.1 hj with hj | rfl
        · exact I.s2 j oj hj hoj h0 h1
        · rw [ho] at hoj; obtain rfl := Option.some.inj hoj; exact absurd hc h1
      · by_cases hji : j = i
        · subst hji
          rw [ho] at hoj; obtain rfl := Option.some.inj hoj
          simp only [if_true]
          refine ⟨anc, ha, I.ext.nxt, by rw [next_new]; omega, hguard, ?_, fun d hd => slot ho hd hrun, fun _ => ⟨?_, fun x hx => ?_⟩⟩
          · rw [At_fixed hw hN I.run hsub]; exact hmat
          · cases hp : φ H.next with
            | none => rfl
            | some c => exact absurd (I.hr.dom _ _ hp) (Nat.lt_irrefl _)
          · rcases get_new hx with ⟨_, e⟩ | ⟨e, _⟩
            · exact e.symm
            · exact absurd rfl e
        · obtain ⟨anc', k1, k2, k3, k4, k5, k6, k7⟩ := I.mkI j oj (old j hj hji) hoj hcj
          simp only [if_neg hji]
          refine ⟨anc', k1, k2, by rw [next_new]; omega, k4, k5, k6, fun hD => ⟨(k7 hD).1, fun x hx => ?_⟩⟩
          rcases get_new hx with ⟨e, _⟩ | ⟨_, e⟩
          · omega
          · exact (k7 hD).2 x e
      · by_cases hji : j = i <;> by_cases hki : k = i
        · rw [hji, hki]
        · obtain ⟨_, _, _, k3, _⟩ := I.mkI k ok (old k hk hki) hok hck
          simp only [if_pos hji, if_neg hki] at e; omega
        · obtain ⟨_, _, _, k3, _⟩ := I.mkI j oj (old j hj hji) hoj hcj
          simp only [if_neg hji, if_pos hki] at e; omega
        · simp only [if_neg hji, if_neg hki] at e
          exact I.mkJ j k oj ok (old j hj hji) hoj hcj (old k hk hki) hok hck e
end
end Go.Fx
