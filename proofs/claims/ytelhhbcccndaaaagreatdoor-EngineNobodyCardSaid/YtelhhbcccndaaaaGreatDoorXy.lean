import Derived.Test.YtelhhbcccndaaaaGreatDoorXx
/-! Regions that draw their order. -/
namespace Go.Fx
set_option linter.unusedVariables false
set_option linter.unusedSimpArgs false

theorem splitL_spec : ∀ {l pre : List Oper} {last : Oper}, splitL l = some (pre, last) → l = pre ++ [last]
  | [], pre, last, h => by cases h
  | [o], pre, last, h => by obtain ⟨rfl, rfl⟩ := Prod.mk.inj (Option.some.inj (show some ([], o) = some (pre, last) from h)); rfl
  | o :: o' :: l, pre, last, h => by
    obtain ⟨p, h1, h2⟩ := map_some (show (splitL (o' :: l)).map (fun p => (o :: p.1, p.2)) = some (pre, last) from h)
    obtain ⟨rfl, rfl⟩ := Prod.mk.inj h2
    obtain ⟨p1, p2⟩ := p
    rw [splitL_spec h1]; rfl

section
variable {P : Program} {N mask : Nat}

theorem left_le (ops : Array Oper) (listed : Array Bool) : left ops listed ≤ ops.size := by
  unfold left
  exact Nat.le_trans (List.length_filter_le _ _) (by simp)

theorem wpAny_end {ops : Array Oper} {Q : Exit → Act → World → Prop} {listed : Array Bool} {a : Act} {w : World} (hz : listed.size = ops.size) (h : ∀ i, i < ops.size → DL listed i) (hq : Q .normal a w) : ∀ fuel, wpAny P .any ops Q fuel listed a w := by
  have hr : Region.ready .any ops listed = [] := by
    cases hc : Region.ready .any ops listed with
    | nil => rfl
    | cons i l =>
      have hi : i ∈ Region.ready .any ops listed := by rw [hc]; exact List.mem_cons_self ..
      obtain ⟨o, h1, h2, h3, _⟩ := ready_inv hz hi
      exact absurd (h i (by omega)) h3
  intro fuel
  cases fuel with
  | zero => exact ⟨hr, hq⟩
  | succ f => exact ⟨fun _ => hq, fun i hi => by rw [hr] at hi; cases hi⟩

/-- a plan's run, for every order -/
theorem plan_ok {call : CallT} {x : XR} {ops : Array Oper} {all : List Oper} {ancs : List Nat} {r fin : BX} {ts : VT} {H : Hp} {k : VT → Hp → XR} {a : Act} {w : World} {φ : Nat → Option (Nat × Nat)} {Q : Exit → Act → World → Prop} {its : List It} (hx : x ≠ .fail) (hs : Sound P call) (hN : N ≤ 65536)
    (hanc : ancsOf ops.toList [] = some ancs) (hw : onceW N (writersOf all 0) = true) (hr : planK P N mask fin all (writersOf all 0) ancs its 0 0 0 0 = some r) (h : runX r call ts H k = x) (hH : HR φ H w) (hR : RT N mask φ ts a) (hz : N ≤ a.tmps.size)
    (hall : ∀ (i : Nat) (o : Oper), all[i]? = some o → ops[i]? = some o) (hlen : all.length ≤ ops.size)
    (hlast : ∀ i o m, all.length ≤ i → ops[i]? = some o → ancs[i]? = some m → ∀ j, j < all.length → Nat.testBit m j = true)
    (hEnd : ∀ tsF HF, runX fin call tsF HF k = x → ∀ fuel listed ψ a' w', listed.size = ops.size → Closed ops.toList (DL listed) → left ops listed ≤ fuel → (∀ i, DL listed i ↔ i < all.length) → Done P call N mask all tsF HF φ H w a ψ a' w' → wpAny P .any ops Q fuel listed a' w') :
    wpAny P .any ops Q ops.size (Array.replicate ops.size false) a w := by
  obtain ⟨tsF, HF, hrun, hfin⟩ := planK_inv hx hr h
  have hno : ∀ i, ¬ DL (Array.replicate ops.size false) i := by
    intro i hi
    unfold DL at hi
    rw [Array.getD_eq_getD_getElem?] at hi
    simp [Array.getElem?_replicate] at hi
    split at hi <;> simp at hi
  have hst : ∀ t v, (∀ j, (t, j) ∉ writersOf all 0) → evC (varT N mask t) [] tsF = some v → Rel φ v (a.eval (.tmp t)) := by
    intro t v hnw e
    refine hR t v ?_
    obtain ⟨g1, g2, g3⟩ := varT_some e
    rw [slots_fixed hw hN hrun g1 fun j hj => absurd hj (hnw j)] at g3
    unfold varT
    rw [(blt_iff _ _).2 g1, g2]; exact g3
  have I : Inv P call N mask all ancs tsF HF φ H w a (DL (Array.replicate ops.size false)) its 0 0 0 0 ts H (fun _ => 0) (fun _ => .map [] 0) (fun _ => .nil) φ a w := by
    refine ⟨hrun, ?_, ?_, ?_, fun i _ hi => absurd hi (hno i), ?_, fun i o hi => absurd hi (hno i), hH, Ext.refl _ _ _, fun i o d v hi => absurd hi (hno i), fun _ _ => rfl, hz, rfl, ?_, ?_⟩
    · intro i o hi; rw [bits_zero] at hi; cases hi
    · intro i o hi; rw [bits_zero] at hi; cases hi
    · intro i hi; rw [bits_zero] at hi; cases hi
    · intro i hi; rw [bits_zero] at hi; cases hi
    · intro i o hi; rw [bits_zero] at hi; cases hi
    · intro i j oi oj hi; rw [bits_zero] at hi; cases hi
  obtain ⟨l2, done2, opn2, fresh2, ts2, H2, nu2, ob2, vl2, hseg, I2⟩ := advance hw hN I
  exact sim hw hN hs hanc hall hlen hst hlast (hEnd tsF HF hfin) ops.size _ (by simp) (fun i o hi => absurd hi (hno i)) (fun i hi => absurd hi (hno i)) (left_le _ _) hseg I2

theorem drawOk (hm : P.follows .mixedOrders = true) (hN : N ≤ 65536) : DrawOk P N mask := by
  intro call x id ops r ts H k a w φ Q hx hs hr h hH hR hz hQ
  refine wp_region_any hm ?_
  have hlike : Like w { w with drawn := w.drawn + 1 } := ⟨rfl, rfl, rfl, rfl⟩
  have hH1 := hH.like hlike
  have hE1 := Ext.like φ H hlike
  unfold drawK at hr
  split at hr
  case h_2 => cases hr
  rename_i ancs pre last hanc hsp
  have hops := splitL_spec hsp
  have hsize : ops.size = pre.length + 1 := by rw [← Array.length_toList, hops]; simp
  have hpre : ∀ (i : Nat) (o : Oper), pre[i]? = some o → ops[i]? = some o := by
    intro i o ho
    have : ops.toList[i]? = some o := by rw [hops, List.getElem?_append_left (List.getElem?_eq_some_iff.1 ho).1]; exact ho
    simpa using this
  have hlst : ops[pre.length]? = some last := by
    have : ops.toList[pre.length]? = some last := by rw [hops]; simp
    simpa using this
  split at hr
  case h_2 => cases hr
  rename_i anc hanc1
  cases hb : Nat.beq anc (allBits pre.length) with
  | true =>
    rw [hb, cond_true] at hr
    obtain ⟨hc, hr⟩ := cond_some hr
    rw [Bool.and_eq_true] at hc
    obtain ⟨hw, hld⟩ := hc
    rw [beq_iff] at hb
    have hbits : ∀ u, Nat.testBit anc u = decide (u < pre.length) := fun u => by rw [hb]; exact bits_full
    refine plan_ok hx hs hN hanc hw hr h hH1 hR hz hpre (by omega) (fun i o m hi hio hmi j hj => ?_) fun tsF HF hfin fuel listed ψ a' w' hz' hcl hf hD Dn => ?_
    · have : i = pre.length := by have := (Array.getElem?_eq_some_iff.1 hio).1; omega
      subst this
      rw [hanc1] at hmi; obtain rfl := Option.some.inj hmi
      rw [hbits, decide_eq_true_eq]; exact hj
    · obtain ⟨v, H', hE, hk⟩ := opD_inv hx (exX_inv hx hfin)
      have hk : k (putS last v tsF) H' = x := hk
      have hnl : ¬ DL listed pre.length := fun hc => by have := (hD _).1 hc; omega
      cases fuel with
      | zero => have := left_set (ops := ops) hz' (i := pre.length) (by omega) hnl; omega
      | succ f =>
        have hpl : ∀ j ∈ predsO last.after.toList, DL listed j := by
          intro j hj
          obtain ⟨m, _, k2, _⟩ := (ancsOf_spec hanc).2 pre.length last (by simpa using hlst)
          have := k2 j hj
          exact (hD j).2 (by simpa using this)
        refine ⟨fun hrd => ?_, fun i hi => ?_⟩
        · have := ready_of hz' hlst hnl hpl
          rw [hrd] at this; cases this
        · obtain ⟨o, hio, hil, hnD, _⟩ := ready_inv hz' hi
          have hi' : i = pre.length := by
            have h1 : ¬ i < pre.length := fun hc => hnD ((hD i).2 hc)
            omega
          subst hi'
          rw [hlst] at hio; obtain rfl := Option.some.inj hio
          refine ev_wp hlst hpre hs Dn.hr (Dn.reads anc fun u hu => by rw [hbits, decide_eq_true_eq] at hu; exact hu) hE fun χ cv w2 r1 r2 r3 => ?_
          refine wpAny_end (by simp [hz']) (fun j hj => (DL_set hil).2 ?_) ?_ f
          · by_cases hjl : j = pre.length
            · exact .inl hjl
            · exact .inr ((hD j).2 (by omega))
          · refine hQ χ (putS last v tsF) H' _ w2 hk ⟨r2, hE1.trans (Dn.ext.trans r3), fun t u e => ?_, by rw [put_size]; exact Dn.size, by rw [put_defers]; exact Dn.defers⟩
            obtain ⟨g1, g2, g3⟩ := varT_some e
            have hvar : ∀ {ts' : VT}, getP (posOf 24 t) ts' = some u → evC (varT N mask t) [] ts' = some u := fun hg => by
              unfold varT; rw [(blt_iff _ _).2 g1, g2]; exact hg
            unfold putS at g3
            cases hd : last.dst with
            | none =>
              rw [hd] at g3
              exact (Dn.rt t u (hvar g3)).mono r3.sub
            | some d =>
              rw [hd] at g3 hld
              simp only [blt_iff] at g3 hld
              by_cases htd : t = d
              · subst htd
                rw [getP_setP_self] at g3
                obtain rfl := Option.some.inj g3
                rw [eval_put_same (Nat.lt_of_lt_of_le g1 Dn.size)]; exact r1
              · rw [getP_setP_ne _ _ _ _ (fun e => htd (posOf_inj 24 d t (by omega) (by omega) e).symm)] at g3
                rw [eval_put_ne htd]
                exact (Dn.rt t u (hvar g3)).mono r3.sub
  | false =>
    rw [hb, cond_false] at hr
    obtain ⟨hw, hr⟩ := cond_some hr
    refine plan_ok hx hs hN hanc hw hr h hH1 hR hz (fun i o ho => by simpa using ho) (by simp) (fun i o m hi hio => ?_) fun tsF HF hfin fuel listed ψ a' w' hz' hcl hf hD Dn => ?_
    · have := (Array.getElem?_eq_some_iff.1 hio).1
      simp at hi; omega
    · exact wpAny_end hz' (fun i hi => (hD i).2 (by simpa using hi)) (hQ ψ tsF HF a' w' (show k tsF HF = x from hfin) ⟨Dn.hr, hE1.trans Dn.ext, Dn.rt, Dn.size, Dn.defers⟩) fuel
end
end Go.Fx
