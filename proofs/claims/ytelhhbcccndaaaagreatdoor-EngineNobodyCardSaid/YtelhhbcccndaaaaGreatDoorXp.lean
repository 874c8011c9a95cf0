import Derived.Test.YtelhhbcccndaaaaGreatDoorXo
/-! Code. -/
namespace Go.Fx
set_option linter.unusedVariables false
set_option linter.unusedSimpArgs false

section
variable {P : Program} {N mask : Nat} {call : CallT}

structure Fin (N mask : Nat) (φ : Nat → Option (Nat × Nat)) (H : Hp) (w : World) (d : List Deferred) (ψ : Nat → Option (Nat × Nat)) (ts' : VT) (H' : Hp) (a' : Act) (w' : World) : Prop where
  hr : HR ψ H' w'
  ext : Ext φ H w ψ H' w'
  rt : RT N mask ψ ts' a'
  size : N ≤ a'.tmps.size
  defers : a'.defers = d

/-- where a code ends -/
def Post (N mask : Nat) (k : VT → Hp → XR) (x : XR) (φ : Nat → Option (Nat × Nat)) (H : Hp) (w : World) (d : List Deferred) : Exit → Act → World → Prop
  | .normal, a', w' => ∃ ψ ts' H', k ts' H' = x ∧ Fin N mask φ H w d ψ ts' H' a' w'
  | .exit id, a', w' => ∃ ψ ts' H', x = .exit id ts' H' ∧ Fin N mask φ H w d ψ ts' H' a' w'
  | .ret, a', w' => ∃ ψ ts' H', x = .ret ts' H' ∧ Fin N mask φ H w d ψ ts' H' a' w'
  | _, _, _ => False

theorem Fin.trans {φ ψ χ : Nat → Option (Nat × Nat)} {H H' H'' : Hp} {w w' w'' : World} {d : List Deferred} {ts' ts'' : VT} {a' a'' : Act} (h : Fin N mask φ H w d ψ ts' H' a' w') (k : Fin N mask ψ H' w' a'.defers χ ts'' H'' a'' w'') :
    Fin N mask φ H w d χ ts'' H'' a'' w'' := ⟨k.hr, h.ext.trans k.ext, k.rt, k.size, k.defers.trans h.defers⟩
theorem Post.trans {φ ψ : Nat → Option (Nat × Nat)} {H H' : Hp} {w w' : World} {d : List Deferred} {ts' : VT} {a' : Act} {k : VT → Hp → XR} {x : XR} (h : Fin N mask φ H w d ψ ts' H' a' w') :
    ∀ e a'' w'', Post N mask k x ψ H' w' a'.defers e a'' w'' → Post N mask k x φ H w d e a'' w'' := by
  intro e a'' w'' hp
  cases e with
  | normal => obtain ⟨χ, t, G, h1, h2⟩ := hp; exact ⟨χ, t, G, h1, h.trans h2⟩
  | exit id => obtain ⟨χ, t, G, h1, h2⟩ := hp; exact ⟨χ, t, G, h1, h.trans h2⟩
  | ret => obtain ⟨χ, t, G, h1, h2⟩ := hp; exact ⟨χ, t, G, h1, h.trans h2⟩
  | _ => exact hp

/-- regions that draw their order -/
def DrawOk (P : Program) (N mask : Nat) : Prop := ∀ {call : CallT} {x : XR} {id : Nat} {ops : Array Oper} {r : BX} {ts : VT} {H : Hp} {k : VT → Hp → XR} {a : Act} {w : World} {φ : Nat → Option (Nat × Nat)} {Q : Exit → Act → World → Prop}, x ≠ .fail → Sound P call →
  drawK P N mask ops.toList = some r → runX r call ts H k = x → HR φ H w → RT N mask φ ts a → N ≤ a.tmps.size →
  (∀ ψ ts' H' a' w', k ts' H' = x → Fin N mask φ H w a.defers ψ ts' H' a' w' → Q .normal a' w') → (Code.region id ops true).wp P Q a w

theorem least {p : Nat → Prop} (h : ∃ n, p n) : ∃ n, p n ∧ ∀ m, p m → n ≤ m := by
  obtain ⟨n, hn⟩ := h
  induction n using Nat.strongRecOn with
  | _ n ih =>
    by_cases hc : ∃ m, m < n ∧ p m
    · obtain ⟨m, h1, h2⟩ := hc; exact ih m h1 h2
    · refine ⟨n, hn, fun m hm => ?_⟩
      rcases Nat.lt_or_ge m n with h | h
      · exact absurd ⟨m, h, hm⟩ hc
      · exact h

/-- a loop: by its rounds -/
theorem wp_rounds {c : Code} {Q : Exit → Act → World → Prop} (J : Nat → Act → World → Prop) (h0 : ∀ a w, ¬ J 0 a w) (round : ∀ n a w, J (n + 1) a w → c.wp P (Exit.then (J n) Q) a w) {n : Nat} {a : Act} {w : World} (h : J n a w) :
    (Code.loop c).wp P Q a w := by
  classical
  have hl : ∀ a w, ∃ m, (∃ n, J n a w) → J m a w ∧ ∀ k, J k a w → m ≤ k := by
    intro a w
    by_cases hc : ∃ n, J n a w
    · obtain ⟨m, h1, h2⟩ := least hc; exact ⟨m, fun _ => ⟨h1, h2⟩⟩
    · exact ⟨0, fun h => absurd h hc⟩
  refine wp_loop (I := fun a w => ∃ n, J n a w) (μ := fun a w => Classical.choose (hl a w)) ⟨n, h⟩ fun a w hJ => ?_
  have hm := Classical.choose_spec (hl a w) hJ
  generalize hmu : Classical.choose (hl a w) = m at hm
  cases m with
  | zero => exact absurd hm.1 (h0 a w)
  | succ m =>
    refine wp_mono (round m a w hm.1) fun e a' w' he => ?_
    cases e with
    | normal =>
      refine ⟨⟨m, he⟩, ?_⟩
      have := (Classical.choose_spec (hl a' w') ⟨m, he⟩).2 m he
      show Classical.choose (hl a' w') < m + 1
      omega
    | _ => exact he

theorem run_loop (b : BX) (ts : VT) (H : Hp) (k : VT → Hp → XR) (n : Nat) (hn : FUEL = n) : runX (.mk (loopX b)) call ts H k = loopR b call n ts H := by
  subst hn; rfl
theorem comp_loop (c : Code) : compC P N mask (.loop c) = .mk (loopX (compC P N mask c)) := by simp only [compC]

theorem compC_ok (hD : DrawOk P N mask) (hs : Sound P call) (hN : N ≤ 65536) : ∀ (c : Code) {ts : VT} {H : Hp} {k : VT → Hp → XR} {x : XR} {a : Act} {w : World} {φ : Nat → Option (Nat × Nat)}, x ≠ .fail → runX (compC P N mask c) call ts H k = x → HR φ H w → RT N mask φ ts a → N ≤ a.tmps.size →
    c.wp P (Post N mask k x φ H w a.defers) a w := by
  intro c
  induction c with
  | skip =>
    intro ts H k x a w φ hx h hH hR hz
    exact wp_skip ⟨φ, ts, H, h, hH, Ext.refl _ _ _, hR, hz, rfl⟩
  | region id ops draw =>
    intro ts H k x a w φ hx h hH hR hz
    cases draw with
    | false =>
      cases hr : regK P N mask ops.toList ops.toList [] 0 with
      | none => simp only [compC, hr] at h; exact absurd h.symm hx
      | some r =>
        simp only [compC, hr] at h
        exact wp_region_list (regK_ok hx hs hN hr rfl (show runR r call [] ts H k = x from h) hH (Env.start hR hz) fun ψ ts' H' a' w' k1 k2 k3 k4 k5 k6 => ⟨ψ, ts', H', k1, k2, k3, k4, k5, k6⟩)
    | true =>
      cases hr : drawK P N mask ops.toList with
      | none => simp only [compC, hr] at h; exact absurd h.symm hx
      | some r =>
        simp only [compC, hr] at h
        exact hD hx hs hr h hH hR hz fun ψ ts' H' a' w' k1 k2 => ⟨ψ, ts', H', k1, k2⟩
  | seq c d ihc ihd =>
    intro ts H k x a w φ hx h hH hR hz
    refine wp_seq (wp_mono (ihc hx (show runX (compC P N mask c) call ts H (fun ts' H' => runX (compC P N mask d) call ts' H' k) = x from h) hH hR hz) fun e a' w' he => ?_)
    cases e with
    | normal =>
      obtain ⟨ψ, ts', H', h1, h2⟩ := he
      exact wp_mono (ihd hx h1 h2.hr h2.rt h2.size) (Post.trans h2)
    | exit id => exact he
    | ret => exact he
    | _ => exact he.elim
  | cond q c d ihc ihd =>
    intro ts H k x a w φ hx h hH hR hz
    obtain ⟨v, h1, h2⟩ := evK_inv hx (show evK (resO N mask [] 0 q) [] ts (fun v => asBool v fun t => Bool.rec (motive := fun _ => XR) (runX (compC P N mask d) call ts H k) (runX (compC P N mask c) call ts H k) t) = x from h)
    obtain ⟨b, rfl, h3⟩ := asBool_inv hx h2
    have r := (Env.start hR hz).at q _ h1
    have hv : a.eval q = .bool b := by
      generalize a.eval q = cv at r
      cases r; rfl
    cases b with
    | true => exact wp_cond_true hv (ihc hx h3 hH hR hz)
    | false => exact wp_cond_false hv (ihd hx h3 hH hR hz)
  | block id c ih =>
    intro ts H k x a w φ hx h hH hR hz
    have h : blockR id (runX (compC P N mask c) call ts H .norm) k = x := h
    have hy : runX (compC P N mask c) call ts H .norm ≠ .fail := by
      intro e; rw [e] at h; exact hx h.symm
    refine wp_block (wp_mono (ih hy rfl hH hR hz) fun e a' w' he => ?_)
    cases e with
    | normal =>
      obtain ⟨ψ, ts', H', h1, h2⟩ := he
      rw [← h1] at h
      exact ⟨ψ, ts', H', h, h2⟩
    | exit i =>
      obtain ⟨ψ, ts', H', h1, h2⟩ := he
      rw [h1] at h
      have h : (Bool.rec (motive := fun _ => XR) (.exit i ts' H') (k ts' H') (Nat.beq i id) : XR) = x := h
      show if i = id then _ else _
      by_cases hi : i = id
      · rw [if_pos hi]
        rw [(beq_iff _ _).2 hi] at h
        exact ⟨ψ, ts', H', h, h2⟩
      · rw [if_neg hi]
        have : Nat.beq i id = false := by cases hb : Nat.beq i id with
          | false => rfl
          | true => rw [beq_iff] at hb; exact absurd hb hi
        rw [this] at h
        exact ⟨ψ, ts', H', h.symm, h2⟩
    | ret =>
      obtain ⟨ψ, ts', H', h1, h2⟩ := he
      rw [h1] at h
      exact ⟨ψ, ts', H', h.symm, h2⟩
    | _ => exact he.elim
  | loop c ih =>
    intro ts H k x a w φ hx h hH hR hz
    obtain ⟨n, hn⟩ : ∃ n, FUEL = n := ⟨_, rfl⟩
    rw [comp_loop, run_loop _ _ _ _ n hn] at h
    clear hn
    refine wp_rounds (J := fun n a' w' => ∃ ψ ts' H', loopR (compC P N mask c) call n ts' H' = x ∧ Fin N mask φ H w a.defers ψ ts' H' a' w') (n := n) ?_ ?_ ⟨φ, ts, H, h, hH, Ext.refl _ _ _, hR, hz, rfl⟩
    · rintro a' w' ⟨ψ, ts', H', h1, _⟩
      exact hx h1.symm
    · rintro n a' w' ⟨ψ, ts', H', h1, h2⟩
      refine wp_mono (ih hx (show runX (compC P N mask c) call ts' H' (loopR (compC P N mask c) call n) = x from h1) h2.hr h2.rt h2.size) fun e a'' w'' he => ?_
      have he := Post.trans h2 e a'' w'' he
      cases e with
      | normal => exact he
      | exit id => exact he
      | ret => exact he
      | _ => exact he.elim
  | exit id =>
    intro ts H k x a w φ hx h hH hR hz
    exact wp_exit ⟨φ, ts, H, (show XR.exit id ts H = x from h).symm, hH, Ext.refl _ _ _, hR, hz, rfl⟩
  | ret =>
    intro ts H k x a w φ hx h hH hR hz
    exact wp_ret ⟨φ, ts, H, (show XR.ret ts H = x from h).symm, hH, Ext.refl _ _ _, hR, hz, rfl⟩
  | _ =>
    intro ts H k x a w φ hx h hH hR hz
    exact absurd (show XR.fail = x from h).symm hx
end
end Go.Fx
