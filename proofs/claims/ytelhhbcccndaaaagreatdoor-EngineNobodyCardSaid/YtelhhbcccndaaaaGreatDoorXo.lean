import Derived.Test.YtelhhbcccndaaaaGreatDoorXn
/-! A region in the text's order. -/
namespace Go.Fx
set_option linter.unusedVariables false
set_option linter.unusedSimpArgs false

section
variable {P : Program} {φ : Nat → Option (Nat × Nat)} {H : Hp} {w : World} {call : CallT} {x : XR} {a : Act} {N mask : Nat}

theorem flush_inv (hx : x ≠ .fail) {stk : List AV} {ts0 : VT} : ∀ {l : List (Pos × CO)} {ts : VT} {k : VT → XR}, flushK l stk ts0 ts k = x →
    ∃ ts', k ts' = x ∧ ∀ q v, getP q ts' = some v → (∃ c, (q, c) ∈ l ∧ evC c stk ts0 = some v) ∨ ((∀ c, (q, c) ∉ l) ∧ getP q ts = some v)
  | [], ts, k, h => ⟨ts, h, fun q v e => .inr ⟨fun c => nofun, e⟩⟩
  | (p, c) :: l, ts, k, h => by
    obtain ⟨u, h1, h2⟩ := evK_inv hx (show evK c stk ts0 (fun v => flushK l stk ts0 (setP p (some v) ts) k) = x from h)
    obtain ⟨ts', h3, h4⟩ := flush_inv hx h2
    refine ⟨ts', h3, fun q v e => ?_⟩
    rcases h4 q v e with ⟨c', h5, h6⟩ | ⟨h5, h6⟩
    · exact .inl ⟨c', List.mem_cons_of_mem _ h5, h6⟩
    · by_cases hq : p = q
      · subst hq
        rw [getP_setP_self] at h6
        obtain rfl := Option.some.inj h6
        exact .inl ⟨c, List.mem_cons_self .., h1⟩
      · rw [getP_setP_ne _ _ _ _ hq] at h6
        refine .inr ⟨fun c' hm => ?_, h6⟩
        rcases List.mem_cons.1 hm with e | e
        · exact hq (Prod.mk.inj e).1.symm
        · exact h5 c' e

theorem testBit_bitOr (m t u : Nat) : Nat.testBit (bitOr m t) u = (Nat.testBit m u || decide (u = t)) := by
  unfold bitOr
  show Nat.testBit (m ||| (1 <<< t)) u = _
  rw [Nat.testBit_or, Nat.testBit_shiftLeft]
  congr 1
  rw [Bool.eq_iff_iff, Bool.and_eq_true, decide_eq_true_eq, decide_eq_true_eq, Nat.testBit_one_eq_true_iff_self_eq_zero]
  omega

theorem flushOf_mem {n : Nat} : ∀ {env : List (Nat × CA)} {seen : Nat} {q : Pos} {c : CO}, (q, c) ∈ flushOf mask n env seen →
    ∃ t ca, q = posOf 24 t ∧ c = coOf n ca ∧ lookE t env = some ca ∧ Nat.testBit seen t = false ∧ Nat.testBit mask t = true
  | [], seen, q, c, h => by cases h
  | (t0, a0) :: l, seen, q, c, h => by
    unfold flushOf at h
    cases hc : (Nat.testBit mask t0 && !(Nat.testBit seen t0)) with
    | true =>
      rw [hc, cond_true] at h
      rw [Bool.and_eq_true] at hc
      rcases List.mem_cons.1 h with e | e
      · obtain ⟨rfl, rfl⟩ := Prod.mk.inj e
        exact ⟨t0, a0, rfl, rfl, by rw [lookE_cons, if_pos rfl], by simpa using hc.2, hc.1⟩
      · obtain ⟨t, ca, h1, h2, h3, h4, h5⟩ := flushOf_mem e
        rw [testBit_bitOr, Bool.or_eq_false_iff, decide_eq_false_iff_not] at h4
        exact ⟨t, ca, h1, h2, by rw [lookE_cons, if_neg h4.2]; exact h3, h4.1, h5⟩
    | false =>
      rw [hc, cond_false] at h
      obtain ⟨t, ca, h1, h2, h3, h4, h5⟩ := flushOf_mem h
      refine ⟨t, ca, h1, h2, ?_, h4, h5⟩
      rw [lookE_cons, if_neg]
      · exact h3
      · rintro rfl
        rw [h4, h5] at hc; cases hc
theorem flushOf_all {n : Nat} : ∀ {env : List (Nat × CA)} {seen t : Nat} {ca : CA}, lookE t env = some ca → Nat.testBit seen t = false → Nat.testBit mask t = true → (posOf 24 t, coOf n ca) ∈ flushOf mask n env seen
  | [], seen, t, ca, h, _, _ => by cases h
  | (t0, a0) :: l, seen, t, ca, h, h1, h2 => by
    rw [lookE_cons] at h
    unfold flushOf
    by_cases ht : t = t0
    · subst ht
      rw [if_pos rfl] at h
      obtain rfl := Option.some.inj h
      rw [h1, h2]
      exact List.mem_cons_self ..
    · rw [if_neg ht] at h
      cases hc : (Nat.testBit mask t0 && !(Nat.testBit seen t0)) with
      | true =>
        rw [cond_true]
        refine List.mem_cons_of_mem _ (flushOf_all h ?_ h2)
        rw [testBit_bitOr, h1, Bool.false_or, decide_eq_false_iff_not]; exact ht
      | false => rw [cond_false]; exact flushOf_all h h1 h2

theorem flush_rt (hx : x ≠ .fail) {env : List (Nat × CA)} {stk : List AV} {ts : VT} {k : VT → XR} (hN : N ≤ 65536) (he : Env N mask φ env stk ts a) (h : flushK (flushOf mask stk.length env 0) stk ts ts k = x) :
    ∃ ts', k ts' = x ∧ RT N mask φ ts' a := by
  obtain ⟨ts', h1, h2⟩ := flush_inv hx h
  refine ⟨ts', h1, fun t v hv => ?_⟩
  obtain ⟨g1, g2, g3⟩ := varT_some hv
  refine he.rel t v ?_
  unfold resT
  rcases h2 _ _ g3 with ⟨c, h3, h4⟩ | ⟨h3, h4⟩
  · obtain ⟨t', ca, e1, rfl, e3, _, _⟩ := flushOf_mem h3
    have hlt := (he.wf t' ca e3).2
    have := posOf_inj 24 t t' (by omega) (by omega) e1
    subst this
    rw [e3]; exact h4
  · cases hl : lookE t env with
    | some ca => exact absurd (flushOf_all (n := stk.length) hl (by simp) g2) (h3 _)
    | none =>
      simp only
      unfold varT
      rw [(blt_iff _ _).2 g1, g2]
      exact h4

/-! guards -/
theorem rel_bool {v : AV} {b : Bool} (r : Rel φ v (.bool b)) : v = .bool b := by cases r; rfl
theorem yielded_eq {ops : Array Oper} {j g : Nat} (hg : guardT ops.toList j = some g) : yielded ops a.tmps j = match a.eval (.tmp g) with | .bool b => some b | _ => none := by
  unfold guardT at hg
  unfold yielded
  have : (ops[j]?).bind (·.dst) = some g := by simpa using hg
  rw [this, Option.bind_some]
  show (match a.tmps[g]? with | some (.bool b) => some b | _ => none) = match a.tmps.getD g undef with | .bool b => some b | _ => none
  cases hc : a.tmps[g]? with
  | none =>
    have : a.tmps.getD g undef = undef := by simp [Array.getD_eq_getD_getElem?, hc]
    rw [this]; rfl
  | some v =>
    have : a.tmps.getD g undef = v := by simp [Array.getD_eq_getD_getElem?, hc]
    rw [this]
    cases v <;> rfl
theorem guard_inv (hx : x ≠ .fail) {q : CO} {want : Bool} {b : BOp} {stk : List AV} {ts : VT} {c : K} (h : runO (.mk (guardK q want b)) call stk ts H c = x) :
    ∃ v, evC q stk ts = some v ∧ ((v = .bool want ∧ runO b call stk ts H c = x) ∨ (v ≠ .bool want ∧ c undefA H = x)) := by
  obtain ⟨v, h1, h2⟩ := evK_inv hx (show evK q stk ts (fun a => boolAll a (fun b' => Bool.rec (motive := fun _ => XR) (Bool.rec (motive := fun _ => XR) (runO b call stk ts H c) (c undefA H) want) (Bool.rec (motive := fun _ => XR) (c undefA H) (runO b call stk ts H c) want) b') (c undefA H)) = x from h)
  refine ⟨v, h1, ?_⟩
  cases v
  case bool b' =>
    cases b' <;> cases want
    · exact .inl ⟨rfl, h2⟩
    · exact .inr ⟨by simp, h2⟩
    · exact .inr ⟨by simp, h2⟩
    · exact .inl ⟨rfl, h2⟩
  all_goals exact .inr ⟨by simp, h2⟩
theorem wanted_of {ops : Array Oper} {o : Oper} {j g : Nat} {want : Bool} {v : AV} (hg : o.guard = some (j, want)) (ht : guardT ops.toList j = some g) (r : Rel φ v (a.eval (.tmp g))) :
    Region.wanted o (yielded ops a.tmps) = true ↔ v = .bool want := by
  unfold Region.wanted
  rw [hg]
  simp only
  rw [yielded_eq ht]
  constructor
  · intro e
    split at e
    · rename_i b hb
      rw [hb] at r
      have := rel_bool r
      subst this
      have : b = want := by simpa using e
      rw [this]
    · simp at e
  · rintro rfl
    generalize a.eval (.tmp g) = cv at r
    cases r
    simp

/-- a region, from an operation on -/
theorem regK_ok (hx : x ≠ .fail) (hs : Sound P call) (hN : N ≤ 65536) {ops : Array Oper} {Q : Exit → Act → World → Prop} {k : VT → Hp → XR} : ∀ {rest : List Oper} {env : List (Nat × CA)} {n : Nat} {r : BRg}, regK P N mask ops.toList rest env n = some r →
    ∀ {stk : List AV} {ts : VT} {H : Hp} {a : Act} {w : World} {φ : Nat → Option (Nat × Nat)}, stk.length = n → runR r call stk ts H k = x → HR φ H w → Env N mask φ env stk ts a →
    (∀ ψ ts' H' a' w', k ts' H' = x → HR ψ H' w' → Ext φ H w ψ H' w' → RT N mask ψ ts' a' → N ≤ a'.tmps.size → a'.defers = a.defers → Q .normal a' w') → wpList P ops Q rest a w
  | [], env, n, r, hr, stk, ts, H, a, w, φ, hn, h, hH, he, hQ => by
    obtain rfl := Option.some.inj (show some (BRg.mk (endK (flushOf mask n env 0))) = some r from hr)
    subst hn
    obtain ⟨ts', h1, h2⟩ := flush_rt hx hN he (show flushK (flushOf mask stk.length env 0) stk ts ts (fun ts' => k ts' H) = x from h)
    exact hQ φ ts' H a w h1 hH (Ext.refl _ _ _) h2 he.size rfl
  | o :: rest, env, n, r, hr, stk, ts, H, a, w, φ, hn, h, hH, he, hQ => by
    subst hn
    -- behind the operation
    have next : ∀ {env' : List (Nat × CA)} {r' : BRg} {v : AV} {cv : Value} {H' : Hp} {ψ : Nat → Option (Nat × Nat)} {w' : World}, regK P N mask ops.toList rest env' (stk.length + 1) = some r' → runR r' call (v :: stk) ts H' k = x → Rel ψ v cv → HR ψ H' w' → Ext φ H w ψ H' w' →
        Env N mask ψ env' (v :: stk) ts (a.put o.dst cv) → wpList P ops Q rest (a.put o.dst cv) w' := by
      intro env' r' v cv H' ψ w' hr' h' rv hH' hE he'
      refine regK_ok hx hs hN hr' rfl h' hH' he' fun χ ts2 H2 a2 w2 k1 k2 k3 k4 k5 k6 => ?_
      exact hQ χ ts2 H2 a2 w2 k1 k2 (hE.trans k3) k4 k5 (k6.trans (put_defers _ _))
    have hdst : ∀ {ψ : Nat → Option (Nat × Nat)} {v : AV} {cv : Value} {d : Nat}, o.dst = some d → d < N → (∀ i b, φ i = some b → ψ i = some b) → Rel ψ v cv → Env N mask ψ ((d, .abs stk.length) :: env) (v :: stk) ts (a.put o.dst cv) := by
      intro ψ v cv d hd hlt hsub rv
      rw [hd]; exact (he.mono hsub).push hlt rv
    have hno : ∀ {ψ : Nat → Option (Nat × Nat)} {v : AV} {cv : Value}, o.dst = none → (∀ i b, φ i = some b → ψ i = some b) → Env N mask ψ env (v :: stk) ts (a.put o.dst cv) := by
      intro ψ v cv hd hsub
      rw [hd]; exact (he.mono hsub).push0
    -- an operation that runs
    have runs : ∀ {env' : List (Nat × CA)} {r' : BRg}, regK P N mask ops.toList rest env' (stk.length + 1) = some r' →
        (∀ {ψ : Nat → Option (Nat × Nat)} {v : AV} {cv : Value}, (∀ i b, φ i = some b → ψ i = some b) → Rel ψ v cv → Env N mask ψ env' (v :: stk) ts (a.put o.dst cv)) →
        runO (opK P (resO N mask env stk.length) o) call stk ts H (fun v H' => runR r' call (v :: stk) ts H' k) = x → o.wp P a w (wpList P ops Q rest) Q := by
      intro env' r' hr' hE h'
      obtain ⟨r0, h1, h2⟩ := opK_inv hx h'
      exact op_wp hs hH he.at h1 h2 fun v H' ψ cv w' g1 g2 g3 g4 => next hr' g1 g2 g3 g4 (hE g4.sub g2)
    have undef_ok : ∀ {env' : List (Nat × CA)} {r' : BRg}, regK P N mask ops.toList rest env' (stk.length + 1) = some r' →
        (∀ {ψ : Nat → Option (Nat × Nat)} {v : AV} {cv : Value}, (∀ i b, φ i = some b → ψ i = some b) → Rel ψ v cv → Env N mask ψ env' (v :: stk) ts (a.put o.dst cv)) →
        runR r' call (undefA :: stk) ts H k = x → wpList P ops Q rest (a.put o.dst undef) w := by
      intro env' r' hr' hE h'
      exact next hr' h' undef_rel hH (Ext.refl _ _ _) (hE (fun _ _ e => e) undef_rel)
    unfold regK at hr
    unfold wpList
    split at hr
    · rename_i hg
      have hw : Region.wanted o (yielded ops a.tmps) = true := by unfold Region.wanted; rw [hg]
      rw [if_pos hw]
      left
      -- an alias
      have al : ∀ {d : Nat} {y : Operand}, o.dst = some d → (execOp a.eval o).run P w = .ok (.value (a.eval y)) w → (match aliasO N mask env y with
          | some ca => cond (Nat.blt d N) (regK P N mask ops.toList rest ((d, ca) :: env) stk.length) none
          | none => none) = some r → o.wp P a w (wpList P ops Q rest) Q := by
        intro d y hd hrun hr
        split at hr
        · rename_i ca hca
          obtain ⟨h1, hr'⟩ := cond_some hr
          rw [blt_iff] at h1
          unfold Oper.wp
          rw [hrun]
          show wpList P ops Q rest (a.put o.dst (a.eval y)) w
          rw [hd]
          refine regK_ok hx hs hN hr' rfl h hH (he.alias h1 hca) fun χ ts2 H2 a2 w2 k1 k2 k3 k4 k5 k6 => ?_
          exact hQ χ ts2 H2 a2 w2 k1 k2 k3 k4 k5 (k6.trans (put_defers _ _))
        · cases hr
      split at hr
      · rename_i y d ho hd
        exact al hd (by unfold execOp; rw [ho]; rfl) hr
      · rename_i y d ho hd
        exact al hd (by unfold execOp; rw [ho]; rfl) hr
      · rename_i d hd _ _
        obtain ⟨h1, hr'⟩ := cond_some hr
        rw [blt_iff] at h1
        obtain ⟨r', h2, rfl⟩ := map_some hr'
        exact runs h2 (fun g1 g2 => hdst hd h1 g1 g2) h
      · rename_i hd
        obtain ⟨r', h2, rfl⟩ := map_some hr
        exact runs h2 (fun g1 g2 => hno hd g1) h
    · rename_i j want hg
      split at hr
      · cases hr
      · rename_i g ht
        have fin : ∀ {env' : List (Nat × CA)} {r' : BRg}, regK P N mask ops.toList rest env' (stk.length + 1) = some r' →
            (∀ {ψ : Nat → Option (Nat × Nat)} {v : AV} {cv : Value}, (∀ i b, φ i = some b → ψ i = some b) → Rel ψ v cv → Env N mask ψ env' (v :: stk) ts (a.put o.dst cv)) →
            runO (.mk (guardK (resT N mask env stk.length g) want (opK P (resO N mask env stk.length) o))) call stk ts H (fun v H' => runR r' call (v :: stk) ts H' k) = x →
            (if Region.wanted o (yielded ops a.tmps) then o.wp P a w (wpList P ops Q rest) Q ∨ (o.asks P a w ∧ LetsOut Q) else wpList P ops Q rest (a.put o.dst undef) w) := by
          intro env' r' hr' hE h'
          obtain ⟨v, h1, h2⟩ := guard_inv hx h'
          have hwant := wanted_of hg ht (he.rel g v h1)
          rcases h2 with ⟨e, h2⟩ | ⟨e, h2⟩
          · rw [if_pos (hwant.2 e)]; left; exact runs hr' hE h2
          · rw [if_neg (fun hc => e (hwant.1 hc))]; exact undef_ok hr' hE h2
        split at hr
        · rename_i d hd
          obtain ⟨h1, hr'⟩ := cond_some hr
          rw [blt_iff] at h1
          obtain ⟨r', h2, rfl⟩ := map_some hr'
          exact fin h2 (fun g1 g2 => hdst hd h1 g1 g2) h
        · rename_i hd
          obtain ⟨r', h2, rfl⟩ := map_some hr
          exact fin h2 (fun g1 g2 => hno hd g1) h
end
end Go.Fx
