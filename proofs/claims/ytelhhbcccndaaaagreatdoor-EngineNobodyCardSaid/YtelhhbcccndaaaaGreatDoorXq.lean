import Derived.Test.YtelhhbcccndaaaaGreatDoorXp
/-! Calls. -/
namespace Go.Fx
set_option linter.unusedVariables false
set_option linter.unusedSimpArgs false

theorem posOf_inj' : ∀ (n k t : Nat), t < 2 ^ n - 1 → posOf n k = posOf n t → k = t
  | 0, k, t, h, _ => by simp at h
  | n + 1, 0, 0, _, _ => rfl
  | n + 1, 0, t + 1, _, e => by
    rw [posOf_succ] at e
    have : posOf (n + 1) 0 = .h := rfl
    rw [this] at e; split at e <;> cases e
  | n + 1, k + 1, 0, _, e => by
    rw [posOf_succ] at e
    have : posOf (n + 1) 0 = .h := rfl
    rw [this] at e; split at e <;> cases e
  | n + 1, k + 1, t + 1, h, e => by
    rw [posOf_succ, posOf_succ] at e
    rw [Nat.pow_succ] at h
    split at e <;> split at e
    · have := posOf_inj' n _ _ (by omega) (Pos.o.inj e); omega
    · cases e
    · cases e
    · have := posOf_inj' n _ _ (by omega) (Pos.i.inj e); omega

theorem argsK_get : ∀ {l : List AV} {i : Nat} {ts : VT} {t : Nat} {v : AV}, t < 65536 → getP (posOf 24 t) (argsK l i ts) = some v → (i ≤ t ∧ l[t - i]? = some v) ∨ getP (posOf 24 t) ts = some v
  | [], i, ts, t, v, _, h => .inr h
  | a :: l, i, ts, t, v, ht, h => by
    rcases argsK_get (l := l) ht (show getP (posOf 24 t) (argsK l (i + 1) (setP (posOf 24 i) (some a) ts)) = some v from h) with ⟨h1, h2⟩ | h1
    · refine .inl ⟨by omega, ?_⟩
      rw [show t - i = (t - (i + 1)) + 1 by omega, List.getElem?_cons_succ]; exact h2
    · by_cases hp : posOf 24 i = posOf 24 t
      · have := posOf_inj' 24 i t (by omega) hp
        subst this
        rw [getP_setP_self] at h1
        exact .inl ⟨Nat.le_refl _, by rw [Nat.sub_self]; exact h1⟩
      · rw [getP_setP_ne _ _ _ _ hp] at h1; exact .inr h1

section
variable {P : Program} {φ : Nat → Option (Nat × Nat)} {H : Hp} {w : World}

theorem args_rt {N mask : Nat} {l : List AV} {vs : List Value} {n : Nat} (hN : N ≤ 65536) (r : RelL φ l vs) : RT N mask φ (argsK l 0 .E) { tmps := vs.toArray ++ Array.replicate n undef, defers := [] } := by
  intro t v e
  obtain ⟨h1, _, h2⟩ := varT_some e
  rcases argsK_get (by omega) h2 with ⟨_, h3⟩ | h3
  · obtain ⟨cv, h4, h5⟩ := r.get h3
    have hlt := (List.getElem?_eq_some_iff.1 h4).1
    rw [Nat.sub_zero] at h4 hlt
    show Rel φ v ((vs.toArray ++ Array.replicate n undef).getD t undef)
    have : (vs.toArray ++ Array.replicate n undef)[t]? = some cv := by
      rw [Array.getElem?_append_left (by simpa using hlt)]; simpa using h4
    rw [Array.getD_eq_getD_getElem?, this]; exact h5
  · rw [getP_E] at h3; cases h3

theorem slotT_some {N mask t : Nat} {ts : VT} {v : AV} {a : Act} (h : slotT N mask t ts = some v) (hR : RT N mask φ ts a) : Rel φ v (a.tmps.getD t undef) := by
  refine hR t v ?_
  unfold slotT at h
  unfold varT
  cases hc : (Nat.blt t N && Nat.testBit mask t) with
  | false => rw [hc] at h; cases h
  | true => rw [hc] at h; exact h

theorem results_ok {N mask : Nat} {ts : VT} {a : Act} (hH : HR φ H w) (hR : RT N mask φ ts a) : ∀ {rs : List ResultVar} {l : List AV}, resultsK P N mask ts H rs = some l →
    ∃ vs, (rs.mapM (m := Sem) fun | .tmp t => pure (a.tmps.getD t undef) | .cell b t => do loadVar t (← asAddr (a.tmps.getD b undef))).run P w = .ok vs w ∧ RelL φ l vs
  | [], l, h => by obtain rfl := Option.some.inj (show some [] = some l from h); exact ⟨[], rfl, .nil⟩
  | .tmp t :: rs, l, h => by
    obtain ⟨v, h1, h2⟩ := bind_some (show (slotT N mask t ts).bind _ = some l from h)
    obtain ⟨m, h3, rfl⟩ := map_some h2
    obtain ⟨vs, h4, h5⟩ := results_ok hH hR h3
    refine ⟨a.tmps.getD t undef :: vs, ?_, .cons (slotT_some h1 hR) h5⟩
    rw [List.mapM_cons]
    simp only [Sem.run_bind, Sem.run_pure, Result.andThen_ok, h4]
  | .cell b t :: rs, l, h => by
    obtain ⟨p, h1, h2⟩ := bind_some (show (slotT N mask b ts).bind _ = some l from h)
    obtain ⟨v, h6, h7⟩ := bind_some h2
    obtain ⟨m, h3, rfl⟩ := map_some h7
    obtain ⟨vs, h4, h5⟩ := results_ok hH hR h3
    have rp := slotT_some h1 hR
    have hv : ∃ cv, (do loadVar t (← asAddr (a.tmps.getD b undef)) : Sem Value).run P w = .ok cv w ∧ Rel φ v cv := by
      have key : ∀ {cv : Value}, (Instr.loadAt t (a.tmps.getD b undef)).run P w = .ok cv w → (∃ c, a.tmps.getD b undef = .pointer (some c)) → (do loadVar t (← asAddr (a.tmps.getD b undef)) : Sem Value).run P w = .ok cv w := by
        rintro cv e ⟨c, hc⟩
        rw [hc] at e ⊢
        rw [← e]; unfold Instr.loadAt; simp [asAddr, Instr.sureAddr]
      split at h6
      · rename_i hg
        obtain ⟨cv, g1, g2⟩ := load1_ok hH hg h6 rp
        refine ⟨cv, key g1 ?_, g2⟩
        unfold loadF1 at h6
        split at h6
        · generalize a.tmps.getD b undef = c at rp; cases rp; exact ⟨_, rfl⟩
        · cases h6
      · rename_i n hg hn
        obtain ⟨cv, g1, g2⟩ := loadN_ok hH hg hn h6 rp
        refine ⟨cv, key g1 ?_, g2⟩
        unfold loadFN at h6
        split at h6
        · generalize a.tmps.getD b undef = c at rp; cases rp; exact ⟨_, rfl⟩
        · cases h6
      · cases h6
    obtain ⟨cv, g1, g2⟩ := hv
    refine ⟨cv :: vs, ?_, .cons g2 h5⟩
    rw [List.mapM_cons]
    simp only [Sem.run_bind] at g1
    simp only [Sem.run_bind, g1, Result.andThen_ok, h4, Sem.run_pure]

theorem oneOf_rel {l : List AV} {vs : List Value} (r : RelL φ l vs) : Rel φ (oneOf l) (if h : vs.toArray.size = 1 then vs.toArray[0] else .tuple vs.toArray) := by
  cases r with
  | nil => exact .tuple .nil
  | cons r1 r2 =>
    cases r2 with
    | nil => exact r1
    | cons r3 r4 =>
      rw [dif_neg (by simp)]
      exact .tuple (RelL.chain (.cons r1 (.cons r3 r4)))

theorem ret_ok {N mask : Nat} {ts : VT} {a : Act} {fn : Func} {l : List AV} (hH : HR φ H w) (hR : RT N mask φ ts a) (h : resultsK P N mask ts H fn.results.toList = some l) : ∃ cv, (results fn a.tmps).run P w = .ok cv w ∧ Rel φ (oneOf l) cv := by
  obtain ⟨vs, h1, h2⟩ := results_ok hH hR h
  refine ⟨_, ?_, oneOf_rel h2⟩
  unfold results
  rw [Array.mapM_eq_mapM_toList]
  simp only [Sem.run_bind, Sem.run_map, Sem.run_pure]
  have key : ∀ X : Result (List Value), X = .ok vs w → ((X.andThen fun a w' => Result.ok a.toArray w').andThen fun (a : Array Value) w' => Result.ok (if h : a.size = 1 then a[0] else Value.tuple a) w') = .ok (if h : vs.toArray.size = 1 then vs.toArray[0] else .tuple vs.toArray) w := by
    rintro X rfl; rfl
  exact key _ h1

/-- functions that are summed up -/
def ExtOk (P : Program) (ext : Nat → Option (List AV → Hp → Option (Prod AV Hp))) : Prop :=
  ∀ f g, ext f = some g → ∀ args H v H', g args H = some (v, H') → ∀ φ w vs, HR φ H w → RelL φ args vs → Came P φ H w f vs v H'

theorem callF_zero (ext : Nat → Option (List AV → Hp → Option (Prod AV Hp))) (f : Nat) (args : List AV) (H : Hp) : callF P ext 0 f args H = none := rfl
theorem callF_succ (ext : Nat → Option (List AV → Hp → Option (Prod AV Hp))) (n f : Nat) (args : List AV) (H : Hp) : callF P ext (n + 1) f args H = match ext f with
    | some g => g args H
    | none => match fnF P f with
      | some fn => finK P fn (runX (codeK P fn) (callF P ext n) (argsK args 0 .E) H .norm)
      | none => none := by
  show Option.rec (motive := fun _ => Option (Prod AV Hp)) (Option.rec (motive := fun _ => Option (Prod AV Hp)) none (fun fn => finK P fn (runX (codeK P fn) (callF P ext n) (argsK args 0 .E) H .norm)) (fnF P f)) (fun g => g args H) (ext f) = _
  cases ext f with
  | some g => rfl
  | none => cases fnF P f <;> rfl

theorem callF_sound {ext : Nat → Option (List AV → Hp → Option (Prod AV Hp))} (he : ExtOk P ext) (hD : ∀ N mask, N ≤ 65536 → DrawOk P N mask) (hname : ∀ (f : FuncId) (fn : Func), P.funcs[f]? = some fn → fn.name ≠ "runtime.NumGoroutine") : ∀ n, Sound P (callF P ext n)
  | 0, f, args, H, v, H', h => by rw [callF_zero] at h; cases h
  | n + 1, f, args, H, v, H', h => by
    intro φ w vs hH hr
    rw [callF_succ] at h
    cases hx : ext f with
    | some g => rw [hx] at h; exact he f g hx _ _ _ _ h φ w vs hH hr
    | none =>
      rw [hx] at h
      simp only at h
      cases hf : fnF P f with
      | none => rw [hf] at h; cases h
      | some fn =>
        rw [hf] at h
        simp only at h
        rw [fnF_eq] at hf
        cases hb : fn.body with
        | none =>
          have : codeK P fn = .mk badX := by unfold codeK; rw [hb]
          rw [this] at h; cases h
        | some c =>
          cases hN : Nat.ble fn.ntmps 65536 with
          | false =>
            have : codeK P fn = .mk badX := by unfold codeK; rw [hb]; simp only [hN, cond_false]
            rw [this] at h; cases h
          | true =>
            have hcode : codeK P fn = compC P fn.ntmps (maskF fn) c := by unfold codeK; rw [hb]; simp only [hN, cond_true]
            rw [hcode] at h
            rw [ble_iff] at hN
            right
            constructor
            · simp [callFunc, hf, hname f fn hf, hb]
            · refine calls_of_wp hf hb ?_
              generalize hy : runX (compC P fn.ntmps (maskF fn) c) (callF P ext n) (argsK args 0 .E) H .norm = x at h
              have hxf : x ≠ .fail := by rintro rfl; cases h
              refine wp_mono (compC_ok (hD _ _ hN) (callF_sound he hD hname n) hN c hxf hy hH (args_rt hN hr) (by simp; omega)) fun e a' w' hp => ?_
              cases e with
              | normal =>
                obtain ⟨ψ, ts', G, h1, h2⟩ := hp
                rw [← h1] at h
                obtain ⟨l, h3, h4⟩ := map_some (show (resultsK P fn.ntmps (maskF fn) ts' G fn.results.toList).map (fun l => (oneOf l, G)) = some (v, H') from h)
                obtain ⟨rfl, rfl⟩ := Prod.mk.inj h4
                obtain ⟨cv, h5, h6⟩ := ret_ok h2.hr h2.rt h3
                exact ⟨h2.defers, cv, h5, cv, ψ, rfl, h6, h2.hr, h2.ext⟩
              | ret =>
                obtain ⟨ψ, ts', G, h1, h2⟩ := hp
                rw [h1] at h
                obtain ⟨l, h3, h4⟩ := map_some (show (resultsK P fn.ntmps (maskF fn) ts' G fn.results.toList).map (fun l => (oneOf l, G)) = some (v, H') from h)
                obtain ⟨rfl, rfl⟩ := Prod.mk.inj h4
                obtain ⟨cv, h5, h6⟩ := ret_ok h2.hr h2.rt h3
                exact ⟨h2.defers, cv, h5, cv, ψ, rfl, h6, h2.hr, h2.ext⟩
              | exit id =>
                obtain ⟨ψ, ts', G, h1, h2⟩ := hp
                rw [h1] at h; cases h
              | _ => exact hp.elim
end
end Go.Fx
