import Derived.Test.YtaaibffnehmaiaaGreatDoorYg
import Derived.Defers
/-! Functions that defer one call. -/
namespace Go.Fx
set_option linter.unusedVariables false
set_option linter.unusedSimpArgs false


section
variable {P : Program}

theorem defOf_some {l : List Oper} {t g : Nat} {x : Operand} (h : defOf l = some (.mk t x g)) : ∃ (o1 o2 : Oper) (c : Call), l = [o1, o2] ∧ o1.guard = none ∧ o1.dst = some t ∧ o1.op = .move x ∧ o2.guard = none ∧ o2.dst = none ∧ o2.op = .defer c ∧ c.callee = .value (.func g) ∧ c.args.toList = [.tmp t] := by
  unfold defOf at h
  split at h
  · rename_i o1 o2
    split at h
    · rename_i t1 x1 c g1 d1 p1 g2 d2 p2
      split at h
      · rename_i f t' hc ha
        cases hb : Nat.beq t1 t' with
        | false => rw [hb] at h; cases h
        | true =>
          rw [hb] at h
          obtain rfl := (beq_iff _ _).1 hb
          cases (Option.some.inj h)
          exact ⟨o1, o2, c, rfl, g1, d1, p1, g2, d2, p2, hc, ha⟩
      · cases h
    · cases h
  · cases h

theorem defer_wp {id t g : Nat} {ops : Array Oper} {x : Operand} {a : Act} {w : World} {Q : Exit → Act → World → Prop} (hd : defOf ops.toList = some (.mk t x g)) (ht : t < a.tmps.size)
    (hQ : Q .normal { a.put (some t) (a.eval x) with defers := ⟨.fn (.func g) #[], #[a.eval x]⟩ :: a.defers } w) : (Code.region id ops false).wp P Q a w := by
  obtain ⟨o1, o2, c, hl, g1, d1, p1, g2, d2, p2, hc, ha⟩ := defOf_some hd
  refine wp_region_list ?_
  rw [hl]
  refine wpList_plain g1 fun K hK => ?_
  unfold Oper.wp
  have e1 : (execOp a.eval o1).run P w = .ok (.value (a.eval x)) w := by simp [execOp, p1]
  rw [e1]
  refine hK _ _ ?_
  rw [d1]
  refine wpList_plain g2 fun K2 hK2 => ?_
  unfold Oper.wp
  have harr : c.args = #[.tmp t] := Array.ext' ha
  have e2 : (execOp (a.put (some t) (a.eval x)).eval o2).run P w = .ok (.defer ⟨.fn (.func g) #[], #[a.eval x]⟩) w := by
    simp [execOp, p2, resolve, hc, harr, Deferred.ofValue, eval_put_same ht]
    rfl
  rw [e2]
  refine hK2 _ _ ?_
  refine wpList_nil ?_
  rw [d2]
  exact hQ

variable {N mask : Nat} {call : CallT}

/-- where a code that defers ends: y: what comes ahead has come to; X: the whole -/
def PostD (N mask : Nat) (k : VT → Hp → XR) (y X : XR) (x : Operand) (g : Nat) (φ : Nat → Option (Blk × Nat)) (H : Hp) (w : World) (d : List Deferred) : Exit → Act → World → Prop
  | .normal, a', w' => ∃ ψ ts' H' cv v ts1 H1, k ts' H' = X ∧ Fin N mask φ H w (⟨.fn (.func g) #[], #[cv]⟩ :: d) ψ ts' H' a' w' ∧ Rel ψ v cv ∧ y = .norm ts1 H1 ∧ evC (resO N mask [] 0 x) [] ts1 = some v
  | .ret, a', w' => (∃ ψ ts' H', y = .ret ts' H' ∧ Fin N mask φ H w d ψ ts' H' a' w') ∨
      ∃ ψ ts' H' cv v ts1 H1, X = .ret ts' H' ∧ Fin N mask φ H w (⟨.fn (.func g) #[], #[cv]⟩ :: d) ψ ts' H' a' w' ∧ Rel ψ v cv ∧ y = .norm ts1 H1 ∧ evC (resO N mask [] 0 x) [] ts1 = some v
  | _, _, _ => False

theorem PostD.trans {φ ψ : Nat → Option (Blk × Nat)} {H H' : Hp} {w w' : World} {d : List Deferred} {ts' : VT} {a' : Act} {k : VT → Hp → XR} {y X : XR} {x : Operand} {g : Nat} (h : Fin N mask φ H w d ψ ts' H' a' w') :
    ∀ e a'' w'', PostD N mask k y X x g ψ H' w' a'.defers e a'' w'' → PostD N mask k y X x g φ H w d e a'' w'' := by
  intro e a'' w'' hp
  have key : ∀ {χ ts'' H'' cv}, Fin N mask ψ H' w' (⟨.fn (.func g) #[], #[cv]⟩ :: a'.defers) χ ts'' H'' a'' w'' → Fin N mask φ H w (⟨.fn (.func g) #[], #[cv]⟩ :: d) χ ts'' H'' a'' w'' := fun k =>
    ⟨k.hr, h.ext.trans k.ext, k.rt, k.size, by rw [k.defers, h.defers]⟩
  cases e with
  | normal => obtain ⟨χ, t, G, cv, v, ts1, H1, h1, h2, h3⟩ := hp; exact ⟨χ, t, G, cv, v, ts1, H1, h1, key h2, h3⟩
  | ret =>
    rcases hp with ⟨χ, t, G, h1, h2⟩ | ⟨χ, t, G, cv, v, ts1, H1, h1, h2, h3⟩
    · exact .inl ⟨χ, t, G, h1, h.trans h2⟩
    · exact .inr ⟨χ, t, G, cv, v, ts1, H1, h1, key h2, h3⟩
  | _ => exact hp.elim

theorem compD_ok (hD : DrawOk P N mask) (hs : Sound P call) (hN : N ≤ 65536) : ∀ (c : Code) {p q : Code} {t g : Nat} {x : Operand} {ts : VT} {H : Hp} {k : VT → Hp → XR} {y X : XR} {a : Act} {w : World} {φ : Nat → Option (Blk × Nat)},
    splitD c = some (p, .mk t x g, q) → t < N → Nat.testBit mask t = false → y ≠ .fail → (∀ id ts H, y ≠ .exit id ts H) → X ≠ .fail → (∀ id ts H, X ≠ .exit id ts H) → runX (compC P N mask p) call ts H .norm = y →
    (∀ ts1 H1, y = .norm ts1 H1 → (∃ v, evC (resO N mask [] 0 x) [] ts1 = some v) ∧ runX (compC P N mask q) call ts1 H1 k = X) → HR φ H w → RT N mask φ ts a → N ≤ a.tmps.size →
    c.wp P (PostD N mask k y X x g φ H w a.defers) a w := by
  intro c
  induction c with
  | region id ops draw =>
    intro p q t g x ts H k y X a w φ hsp ht hm hy hye hX hXe hp hq hH hR hz
    cases draw with
    | true => cases hsp
    | false =>
      obtain ⟨d, h1, h2⟩ := map_some (show (defOf ops.toList).map _ = some _ from hsp)
      cases h2
      have hp : XR.norm ts H = y := hp
      obtain ⟨⟨v, hv⟩, hk⟩ := hq ts H hp.symm
      have hk : k ts H = X := hk
      refine defer_wp h1 (by omega) ⟨φ, ts, H, a.eval x, v, ts, H, hk, ⟨hH, Ext.refl _ _ _, fun u z hu => ?_, by rw [put_size]; exact hz, rfl⟩, (Env.start hR hz).at x v hv, hp.symm, hv⟩
      have hut : u ≠ t := by
        rintro rfl
        obtain ⟨_, h2, _⟩ := varT_some hu
        rw [hm] at h2; cases h2
      have := hR u z hu
      rwa [← eval_put_ne (d := t) (v := a.eval x) hut] at this
  | seq b c ihb ihc =>
    intro p q t g x ts H k y X a w φ hsp ht hm hy hye hX hXe hp hq hH hR hz
    have hsp : (match splitD b with
      | some (p, d, q) => some (p, d, Code.seq q c)
      | none => match splitD c with
        | some (p, d, q) => some (Code.seq b p, d, q)
        | none => none) = some (p, .mk t x g, q) := hsp
    split at hsp
    · rename_i p1 d1 q1 hb
      cases hsp
      refine wp_seq (wp_mono (ihb (k := fun ts' H' => runX (compC P N mask c) call ts' H' k) hb ht hm hy hye hX hXe hp (fun ts1 H1 e => hq ts1 H1 e) hH hR hz) fun e a' w' he => ?_)
      cases e with
      | normal =>
        obtain ⟨ψ, ts', H', cv, v, ts1, H1, h1, h2, h3, h4, h5⟩ := he
        refine wp_mono (compC_ok hD hs hN c hX h1 h2.hr h2.rt h2.size) fun e a'' w'' he => ?_
        cases e with
        | normal =>
          obtain ⟨χ, t2, G, k1, k2⟩ := he
          exact ⟨χ, t2, G, cv, v, ts1, H1, k1, h2.trans k2, h3.mono k2.ext.sub, h4, h5⟩
        | ret =>
          obtain ⟨χ, t2, G, k1, k2⟩ := he
          exact .inr ⟨χ, t2, G, cv, v, ts1, H1, k1, h2.trans k2, h3.mono k2.ext.sub, h4, h5⟩
        | exit id => obtain ⟨χ, t2, G, k1, k2⟩ := he; exact absurd k1 (hXe _ _ _)
        | _ => exact he.elim
      | ret => exact he
      | _ => exact he.elim
    · rename_i hb
      split at hsp
      · rename_i p1 d1 q1 hc
        cases hsp
        refine wp_seq (wp_mono (compC_ok hD hs hN b hy (show runX (compC P N mask b) call ts H (fun ts' H' => runX (compC P N mask p1) call ts' H' .norm) = y from hp) hH hR hz) fun e a' w' he => ?_)
        cases e with
        | normal =>
          obtain ⟨ψ, ts', H', h1, h2⟩ := he
          exact wp_mono (ihc hc ht hm hy hye hX hXe h1 hq h2.hr h2.rt h2.size) (PostD.trans h2)
        | ret =>
          obtain ⟨ψ, ts', H', h1, h2⟩ := he
          exact .inl ⟨ψ, ts', H', h1, h2⟩
        | exit id => obtain ⟨ψ, ts', H', h1, h2⟩ := he; exact absurd h1 (hye _ _ _)
        | _ => exact he.elim
      · cases hsp
  | _ => intro p q t g x ts H k y X a w φ hsp; cases hsp


theorem runD_came {call : CallT} (hs : Sound P call) (hD : ∀ N mask, N ≤ 65536 → DrawOk P N mask) (hname : ∀ (f : FuncId) (fn : Func), P.funcs[f]? = some fn → fn.name ≠ "runtime.NumGoroutine") {f : FuncId} :
    ∀ args H v H', runD P call f args H = some (v, H') → ∀ φ w vs, HR φ H w → RelL φ args vs → Came P φ H w f vs v H' := by
  intro args H v H' h φ w vs hH hr
  unfold runD at h
  split at h
  case h_2 => cases h
  rename_i fn hf
  rw [fnF_eq] at hf
  split at h
  case h_2 => cases h
  rename_i c hb
  split at h
  case h_2 => cases h
  rename_i p t x g q hsp
  cases hc : (Nat.ble fn.ntmps 65536 && (Nat.blt t fn.ntmps && !(Nat.testBit (maskF fn) t))) with
  | false => rw [hc] at h; cases h
  | true =>
  rw [hc] at h
  rw [Bool.and_eq_true, Bool.and_eq_true, ble_iff, blt_iff] at hc
  obtain ⟨hN, ht, hm⟩ := hc
  have hm : Nat.testBit (maskF fn) t = false := by cases hx : Nat.testBit (maskF fn) t with
    | true => rw [hx] at hm; cases hm
    | false => rfl
  simp only [cond_true] at h
  right
  constructor
  · simp [callFunc, hf, hname f fn hf, hb]
  refine calls_of_wp_defers hf hb ?_
  generalize hy : runX (compC P fn.ntmps (maskF fn) p) call (argsK args 0 .E) H .norm = y at h
  have hsz : fn.ntmps ≤ (vs.toArray ++ Array.replicate (fn.ntmps - vs.toArray.size) undef).size := by simp; omega
  have hR : RT fn.ntmps (maskF fn) φ (argsK args 0 .E) { tmps := vs.toArray ++ Array.replicate (fn.ntmps - vs.toArray.size) undef, defers := [] } := args_rt hN hr
  cases y with
  | fail => cases h
  | exit id ts G => cases h
  | ret ts G =>
    have h : (resultsK P fn.ntmps (maskF fn) ts G fn.results.toList).map (fun l => (oneOf l, G)) = some (v, H') := h
    refine wp_mono (compD_ok (hD _ _ hN) hs hN c (k := .norm) (X := .ret ts G) hsp ht hm (by simp) (by simp) (by simp) (by simp) hy (fun ts1 H1 e => by cases e) hH hR hsz) fun e a' w' he => ?_
    cases e with
    | normal => obtain ⟨_, _, _, _, _, _, _, _, _, _, h4, _⟩ := he; cases h4
    | ret =>
      rcases he with ⟨ψ, ts', G', e1, h2⟩ | ⟨_, _, _, _, _, _, _, _, _, _, h4, _⟩
      · cases e1
        obtain ⟨l, h3, h4⟩ := map_some h
        obtain ⟨rfl, rfl⟩ := Prod.mk.inj h4
        obtain ⟨cv, h5, h6⟩ := ret_ok h2.hr h2.rt h3
        show Leaves P fn a'.tmps _ a'.defers .returning w'
        rw [h2.defers]
        exact ⟨cv, h5, cv, ψ, rfl, h6, h2.hr, h2.ext⟩
      · cases h4
    | _ => exact he.elim
  | norm ts G =>
    simp only at h
    split at h
    case h_2 => cases h
    rename_i u hu
    generalize hX : runX (compC P fn.ntmps (maskF fn) q) call ts G .norm = X at h
    -- the deferred call, wherever the function ends
    have fin : ∀ (ts' : VT) (G' : Hp) (ψ : Nat → Option (Blk × Nat)) (cv : Value) (a' : Act) (w' : World), finD (P := P) fn call g u (.ret ts' G') = some (v, H') → Fin fn.ntmps (maskF fn) φ H w [⟨.fn (.func g) #[], #[cv]⟩] ψ ts' G' a' w' → Rel ψ u cv → Leaves P fn a'.tmps (Ret φ H w v H') a'.defers .returning w' := by
      intro ts' G' ψ cv a' w' hfin h2 h3
      rw [h2.defers]
      unfold finD at hfin
      simp only at hfin
      split at hfin
      case h_2 => cases hfin
      rename_i gn hg
      rw [fnF_eq] at hg
      split at hfin
      case h_2 => cases hfin
      rename_i r H2 hgr
      cases hbg : gn.body with
      | none =>
        have : codeK P gn = .mk badX := by unfold codeK; rw [hbg]
        rw [this] at hgr; cases hgr
      | some cg =>
      cases hNg : Nat.ble gn.ntmps 65536 with
      | false =>
        have : codeK P gn = .mk badX := by unfold codeK; rw [hbg]; simp only [hNg, cond_false]
        rw [this] at hgr; cases hgr
      | true =>
      have hcode : codeK P gn = compC P gn.ntmps (maskF gn) cg := by unfold codeK; rw [hbg]; simp only [hNg, cond_true]
      rw [hcode] at hgr
      rw [ble_iff] at hNg
      refine ⟨by simp, .func g, #[], g, #[cv], rfl, by simp [invoke, callFunc, hg, hname g gn hg, hbg], ?_⟩
      have hrl : RelL ψ [u] [cv] := .cons h3 .nil
      generalize hz : runX (compC P gn.ntmps (maskF gn) cg) call (argsK [u] 0 .E) G' .norm = z at hgr
      have hzf : z ≠ .fail := by rintro rfl; cases hgr
      refine (callsD_of_wp (u := .returning) (R := Ret ψ G' w' r H2) hg hbg ?_).mono ?_
      · refine wp_mono (compC_ok (hD _ _ hNg) hs hNg cg hzf hz h2.hr (args_rt (vs := [cv]) hNg hrl) (by simp; omega)) fun e a'' w'' hp => ?_
        cases e with
        | normal =>
          obtain ⟨χ, t2, G2, k1, k2⟩ := hp
          rw [← k1] at hgr
          obtain ⟨l, k3, k4⟩ := map_some (show (resultsK P gn.ntmps (maskF gn) t2 G2 gn.results.toList).map (fun l => (oneOf l, G2)) = some (r, H2) from hgr)
          obtain ⟨rfl, rfl⟩ := Prod.mk.inj k4
          obtain ⟨cw, k5, k6⟩ := ret_ok k2.hr k2.rt k3
          exact ⟨k2.defers, cw, k5, cw, χ, rfl, k6, k2.hr, k2.ext⟩
        | ret =>
          obtain ⟨χ, t2, G2, k1, k2⟩ := hp
          rw [k1] at hgr
          obtain ⟨l, k3, k4⟩ := map_some (show (resultsK P gn.ntmps (maskF gn) t2 G2 gn.results.toList).map (fun l => (oneOf l, G2)) = some (r, H2) from hgr)
          obtain ⟨rfl, rfl⟩ := Prod.mk.inj k4
          obtain ⟨cw, k5, k6⟩ := ret_ok k2.hr k2.rt k3
          exact ⟨k2.defers, cw, k5, cw, χ, rfl, k6, k2.hr, k2.ext⟩
        | exit id => obtain ⟨χ, t2, G2, k1, k2⟩ := hp; rw [k1] at hgr; cases hgr
        | _ => exact hp.elim
      · rintro e u' w'' ⟨rfl, hp⟩
        obtain ⟨cw, χ, rfl, k1, k2, k3⟩ := hp
        obtain ⟨l, h5, h6⟩ := map_some hfin
        obtain ⟨rfl, rfl⟩ := Prod.mk.inj h6
        have hrt : RT fn.ntmps (maskF fn) χ ts' a' := fun z q hz => (h2.rt z q hz).mono k3.sub
        obtain ⟨cz, h7, h8⟩ := ret_ok k2 hrt h5
        exact ⟨cz, h7, cz, χ, rfl, h8, k2, h2.ext.trans k3⟩
    cases X with
    | fail => cases h
    | exit id ts2 G2 => cases h
    | norm ts2 G2 =>
      refine wp_mono (compD_ok (hD _ _ hN) hs hN c (k := .norm) (X := .norm ts2 G2) hsp ht hm (by simp) (by simp) (by simp) (by simp) hy (fun ts1 H1 e => by cases e; exact ⟨⟨u, hu⟩, hX⟩) hH hR hsz) fun e a' w' he => ?_
      cases e with
      | normal =>
        obtain ⟨ψ, ts', G', cv, v', ts1, H1, e1, h2, h3, h4, h5⟩ := he
        cases e1; cases h4
        rw [hu] at h5; obtain rfl := Option.some.inj h5
        exact fin _ _ _ _ _ _ h h2 h3
      | ret =>
        rcases he with ⟨_, _, _, e1, _⟩ | ⟨_, _, _, _, _, _, _, e1, _⟩ <;> cases e1
      | _ => exact he.elim
    | ret ts2 G2 =>
      refine wp_mono (compD_ok (hD _ _ hN) hs hN c (k := .norm) (X := .ret ts2 G2) hsp ht hm (by simp) (by simp) (by simp) (by simp) hy (fun ts1 H1 e => by cases e; exact ⟨⟨u, hu⟩, hX⟩) hH hR hsz) fun e a' w' he => ?_
      cases e with
      | normal =>
        obtain ⟨ψ, ts', G', cv, v', ts1, H1, e1, h2, h3, h4, h5⟩ := he
        cases e1
      | ret =>
        rcases he with ⟨_, _, _, e1, _⟩ | ⟨ψ, ts', G', cv, v', ts1, H1, e1, h2, h3, h4, h5⟩
        · cases e1
        · cases e1; cases h4
          rw [hu] at h5; obtain rfl := Option.some.inj h5
          exact fin _ _ _ _ _ _ h h2 h3
      | _ => exact he.elim
end
end Go.Fx
