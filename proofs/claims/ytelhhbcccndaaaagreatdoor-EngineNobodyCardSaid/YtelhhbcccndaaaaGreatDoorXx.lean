import Derived.Test.YtelhhbcccndaaaaGreatDoorXw
/-! The simulation. -/
namespace Go.Fx
set_option linter.unusedVariables false
set_option linter.unusedSimpArgs false

section
variable {P : Program} {call : CallT} {N mask : Nat} {all : List Oper} {ancs : List Nat} {tsF : VT} {HF : Hp} {φ0 : Nat → Option (Nat × Nat)} {H0 : Hp} {w0 : World} {a0 : Act} {ops : Array Oper} {Q : Exit → Act → World → Prop}

/-- what holds when the plan's operations have all run -/
structure Done (P : Program) (call : CallT) (N mask : Nat) (all : List Oper) (tsF : VT) (HF : Hp) (φ0 : Nat → Option (Nat × Nat)) (H0 : Hp) (w0 : World) (a0 : Act) (φ : Nat → Option (Nat × Nat)) (a : Act) (w : World) : Prop where
  hr : HR φ HF w
  ext : Ext φ0 H0 w0 φ HF w
  rt : RT N mask φ tsF a
  reads : ∀ anc, (∀ u, Nat.testBit anc u = true → u < all.length) → ∀ y u, At (resD N mask anc (writersOf all 0)) [] tsF y = some u → Rel φ u (a.eval y)
  size : N ≤ a.tmps.size
  defers : a.defers = a0.defers

theorem sim (hw : onceW N (writersOf all 0) = true) (hN : N ≤ 65536) (hs : Sound P call) (hanc : ancsOf ops.toList [] = some ancs) (hall : ∀ (i : Nat) (o : Oper), all[i]? = some o → ops[i]? = some o) (hlen : all.length ≤ ops.size)
    (hst : ∀ t v, (∀ j, (t, j) ∉ writersOf all 0) → evC (varT N mask t) [] tsF = some v → Rel φ0 v (a0.eval (.tmp t)))
    (hlast : ∀ i o m, all.length ≤ i → ops[i]? = some o → ancs[i]? = some m → ∀ j, j < all.length → Nat.testBit m j = true)
    (hEnd : ∀ fuel listed φ a w, listed.size = ops.size → Closed ops.toList (DL listed) → left ops listed ≤ fuel → (∀ i, DL listed i ↔ i < all.length) → Done P call N mask all tsF HF φ0 H0 w0 a0 φ a w → wpAny P .any ops Q fuel listed a w) :
    ∀ (fuel : Nat) (listed : Array Bool) {l : List It} {done opn fresh eff : Nat} {ts : VT} {H : Hp} {nu : Nat → Nat} {ob : Nat → AObj} {vl : Nat → AV} {φ : Nat → Option (Nat × Nat)} {a : Act} {w : World},
    listed.size = ops.size → Closed ops.toList (DL listed) → (∀ i, DL listed i → i < all.length) → left ops listed ≤ fuel → Seg P all l →
    Inv P call N mask all ancs tsF HF φ0 H0 w0 a0 (DL listed) l done opn fresh eff ts H nu ob vl φ a w → wpAny P .any ops Q fuel listed a w := by
  -- when all have run
  have full : ∀ {fuel : Nat} {listed : Array Bool} {l : List It} {done opn fresh eff : Nat} {ts : VT} {H : Hp} {nu : Nat → Nat} {ob : Nat → AObj} {vl : Nat → AV} {φ : Nat → Option (Nat × Nat)} {a : Act} {w : World},
      listed.size = ops.size → Closed ops.toList (DL listed) → (∀ i, DL listed i → i < all.length) → left ops listed ≤ fuel → Seg P all l →
      Inv P call N mask all ancs tsF HF φ0 H0 w0 a0 (DL listed) l done opn fresh eff ts H nu ob vl φ a w → (∀ i, i < all.length → DL listed i) → wpAny P .any ops Q fuel listed a w := by
    intro fuel listed l done opn fresh eff ts H nu ob vl φ a w hz hcl hlt hf hseg I hfull
    have hl : l = [] := by
      cases l with
      | nil => rfl
      | cons it l =>
        cases it with
        | ck i => exact hseg.elim
        | ex i =>
          obtain ⟨o, h1, h2, h3⟩ := hseg
          have hi := (List.getElem?_eq_some_iff.1 h1).1
          have hd := I.sub i hi (hfull i hi)
          cases I.run with
          | eff _ _ hn => rw [hd] at hn; cases hn
          | look _ _ hn => rw [hd] at hn; cases hn
          | mk _ _ hn => rw [hd] at hn; cases hn
    subst hl
    have hH : H = HF := by cases I.run; rfl
    subst hH
    refine hEnd fuel listed φ a w hz hcl hf (fun i => ⟨hlt i, hfull i⟩) ⟨I.hr, I.ext, fun t v e => ?_, fun anc ha => reads I hst fun u hu => hfull u (ha u hu), I.size, I.defers⟩
    cases hl : lookW t (writersOf all 0) with
    | some j =>
      obtain ⟨_, o, h1, h2⟩ := writersOf_mem (lookW_mem hl)
      rw [Nat.sub_zero] at h1
      exact I.rel j o t v (hfull j (List.getElem?_eq_some_iff.1 h1).1) h1 h2 (varT_some e).2.2
    | none =>
      rw [I.old t (lookW_none hl)]
      exact (hst t v (lookW_none hl) e).mono I.ext.sub
  intro fuel
  induction fuel with
  | zero =>
    intro listed l done opn fresh eff ts H nu ob vl φ a w hz hcl hlt hf hseg I
    refine full hz hcl hlt hf hseg I fun i hi => ?_
    by_cases h : DL listed i
    · exact h
    · exfalso
      have := left_set (ops := ops) hz (i := i) (by omega) h
      omega
  | succ fuel ih =>
    intro listed l done opn fresh eff ts H nu ob vl φ a w hz hcl hlt hf hseg I
    by_cases hfull : ∀ i, i < all.length → DL listed i
    · exact full hz hcl hlt hf hseg I hfull
    have hspec := (ancsOf_spec hanc).2
    simp only [List.length_nil, Nat.zero_add] at hspec
    refine ⟨fun hr => ?_, fun i hi => ?_⟩
    · exfalso
      obtain ⟨i, ⟨h1, h2⟩, h3⟩ := least (p := fun i => i < all.length ∧ ¬ DL listed i) (by
        refine Classical.byContradiction fun hc => hfull fun i hi => Classical.byContradiction fun hn => hc ⟨i, hi, hn⟩)
      have hio : i < ops.size := by omega
      obtain ⟨m, k1, k2, k3⟩ := hspec i ops[i] (by simp [hio])
      have : i ∈ Region.ready .any ops listed := ready_of hz (o := ops[i]) (by simp [hio]) h2 fun j hj => by
        have hji := k2 j hj
        exact Classical.byContradiction fun hn => by have := h3 j ⟨by omega, hn⟩; omega
      rw [hr] at this; cases this
    · obtain ⟨o, hio, hil, hnD, hp⟩ := ready_inv hz hi
      obtain ⟨m, hm, k2, k3⟩ := hspec i o (by simpa using hio)
      have hsub := anc_sub hanc hcl i o m (by simpa using hio) hm hp
      have hia : i < all.length := by
        rcases Nat.lt_or_ge i all.length with h | h
        · exact h
        · exact absurd (fun j hj => hsub j (hlast i o m h hio hm j hj)) hfull
      have hao : all[i]? = some o := by
        have h := hall i all[i] (by simp [hia])
        rw [hio] at h; rw [Option.some.inj h]; simp [hia]
      have hD' : ∀ j, DL (listed.setIfInBounds i true) j ↔ j = i ∨ DL listed j := fun j => DL_set hil
      have hz' : (listed.setIfInBounds i true).size = ops.size := by simp [hz]
      have hcl' : Closed ops.toList (DL (listed.setIfInBounds i true)) := by
        intro j oj hj hoj k hk
        rcases (hD' j).1 hj with rfl | hj
        · rw [show ops.toList[j]? = some o by simpa using hio] at hoj
          obtain rfl := Option.some.inj hoj
          exact (hD' k).2 (.inr (hp k hk))
        · exact (hD' k).2 (.inr (hcl j oj hj hoj k hk))
      have hcla : Closed all (DL (listed.setIfInBounds i true)) := fun j oj hj hoj => hcl' j oj hj (by simpa using hall j oj hoj)
      have hlt' : ∀ j, DL (listed.setIfInBounds i true) j → j < all.length := fun j hj => by
        rcases (hD' j).1 hj with rfl | hj
        · exact hia
        · exact hlt j hj
      have hf' : left ops (listed.setIfInBounds i true) ≤ fuel := by
        have := left_set (ops := ops) hz hil hnD; omega
      have hρ := reads I hst hsub
      -- is it done in the plan?
      have hdone : Nat.testBit done i = true ∨ ∃ l', l = .ex i :: l' := by
        cases hd : Nat.testBit done i with
        | true => exact .inl rfl
        | false =>
          right
          cases l with
          | nil =>
            obtain ⟨anc', h1, h2⟩ := later I.run i hia hd
            cases I.run with
            | nil hfulld _ => rw [hfulld, bits_full, decide_eq_false_iff_not] at hd; exact absurd hia hd
          | cons it l' =>
            cases it with
            | ck e => exact hseg.elim
            | ex e =>
              obtain ⟨oe, e1, e2, e3⟩ := hseg
              by_cases hie : i = e
              · subst hie; exact ⟨l', rfl⟩
              · exfalso
                have key : ∀ {opn' fresh' eff' : Nat} {ts' : VT} {H' : Hp}, Runs P call N mask all ancs l' (bitOr done e) opn' fresh' (bitOr eff' e) ts' H' tsF HF → Nat.testBit done e = false → False := by
                  intro opn' fresh' eff' ts' H' hrun hne
                  obtain ⟨anc', h1, h2⟩ := later hrun i hia (by rw [testBit_bitOr, hd, Bool.false_or, decide_eq_false_iff_not]; exact hie)
                  rw [hm] at h1; obtain rfl := Option.some.inj h1
                  have := I.sub e (List.getElem?_eq_some_iff.1 e1).1 (hsub e (h2 e (bits_bitOr.2 (.inr rfl))))
                  rw [hne] at this; cases this
                cases I.run with
                | eff _ _ hne _ _ _ _ _ _ hrun => exact key hrun hne
                | look h1 _ _ _ _ h2 => rw [e1] at h1; obtain rfl := Option.some.inj h1; exact e2 h2
                | mk h1 _ _ _ _ h2 => rw [e1] at h1; obtain rfl := Option.some.inj h1; exact e3 h2
      by_cases hc0 : clsO P o = 0
      · -- a look
        have hdi : Nat.testBit done i = true := by
          rcases hdone with h | ⟨l', rfl⟩
          · exact h
          · obtain ⟨o', e1, e2, e3⟩ := hseg
            rw [hao] at e1; obtain rfl := Option.some.inj e1; exact absurd hc0 e2
        have hopn : Nat.testBit opn i = true := by
          rcases I.s1 i o hdi hao hc0 with h | ⟨e, me, h1, h2, h3⟩
          · exact h
          · exfalso
            have hDe := I.effD e h1
            have hel := hlt e hDe
            have heo : ops.toList[e]? = some ops[e] := by simp [show e < ops.size by omega]
            exact hnD (anc_sub hanc hcl e ops[e] me heo h2 (fun j hj => hcl e _ hDe heo j hj) i h3)
        have hfresh : subM opn fresh = true := by
          cases l with
          | nil => cases I.run with | nil _ h => exact h
          | cons it l' =>
            cases it with
            | ck e => exact hseg.elim
            | ex e =>
              obtain ⟨oe, e1, e2, e3⟩ := hseg
              cases I.run with
              | eff _ _ _ _ _ _ _ h => exact h
              | look h1 _ _ _ _ h2 => rw [e1] at h1; obtain rfl := Option.some.inj h1; exact absurd h2 e2
              | mk h1 _ _ _ _ h2 => rw [e1] at h1; obtain rfl := Option.some.inj h1; exact absurd h2 e3
        obtain ⟨o', anc', v, g1, g2, g3, g4⟩ := I.fr i ((subM_iff.1 hfresh) i hopn)
        rw [hao] at g1; obtain rfl := Option.some.inj g1
        rw [hm] at g2; obtain rfl := Option.some.inj g2
        refine ev_wp hio hall hs I.hr hρ g3 fun ψ cv w' r1 r2 r3 => ?_
        obtain ⟨p1, p2, p3, p4⟩ := put_rel hw I hao r3.sub r1 g4
        refine ih (listed.setIfInBounds i true) hz' hcl' hlt' hf' hseg (nu := nu) (ob := ob) (vl := vl) ⟨I.run, I.s1, I.s2, I.fr, fun j hj hDj => ?_, fun e he => (hD' e).2 (.inr (I.effD e he)), hcla, r2, I.ext.trans r3,
          fun j oj d u hDj => p1 j oj d u ((hD' j).1 hDj), p2, p3, p4, fun j oj hj hoj hcj => ?_, I.mkJ⟩
        · rcases (hD' j).1 hDj with rfl | hDj
          · exact hdi
          · exact I.sub j hj hDj
        · obtain ⟨ac, q1, q2, q3, q4, q5, q6, q7⟩ := I.mkI j oj hj hoj hcj
          refine ⟨ac, q1, q2, q3, q4, q5, q6, fun hn => ?_⟩
          have hn' : ¬ DL listed j := fun h => hn ((hD' j).2 (.inr h))
          refine ⟨?_, (q7 hn').2⟩
          cases hp : ψ (nu j) with
          | none => rfl
          | some c =>
            rcases r3.dom _ _ hp with h | h
            · rw [(q7 hn').1] at h; cases h
            · omega
      · by_cases hc1 : clsO P o = 1
        · -- a maker
          have hdi : Nat.testBit done i = true := by
            rcases hdone with h | ⟨l', rfl⟩
            · exact h
            · obtain ⟨o', e1, e2, e3⟩ := hseg
              rw [hao] at e1; obtain rfl := Option.some.inj e1; exact absurd hc1 e3
          obtain ⟨ac, q1, q2, q3, q4, q5, q6, q7⟩ := I.mkI i o hdi hao hc1
          rw [hm] at q1; obtain rfl := Option.some.inj q1
          obtain ⟨hno, hob⟩ := q7 hnD
          obtain ⟨cv, co, q, hrun, hrel⟩ := q5 φ a w hρ
          have hψ := hrel (upd φ (nu i) w.heap.size q) (upd_sub' hno) (upd_same _ _ _ _)
          have hHR := I.hr.mat hno q3 hob hψ.1
          have hExt := I.ext.mat (q := q) (co := co) hno q2
          obtain ⟨p1, p2, p3, p4⟩ := put_rel hw I hao (upd_sub' hno) hψ.2 q6
          have hwant : Region.wanted o (yielded ops a.tmps) = true := by unfold Region.wanted; rw [q4]
          unfold wpOp
          rw [hio]
          simp only
          rw [if_pos hwant]
          left
          unfold Oper.wp
          rw [hrun]
          refine ih (listed.setIfInBounds i true) hz' hcl' hlt' hf' hseg (nu := nu) (ob := ob) (vl := vl) (φ := upd φ (nu i) w.heap.size q) ⟨I.run, I.s1, I.s2, I.fr, fun j hj hDj => ?_, fun e he => (hD' e).2 (.inr (I.effD e he)), hcla, hHR, hExt,
            fun j oj d u hDj => p1 j oj d u ((hD' j).1 hDj), p2, p3, p4, fun j oj hj hoj hcj => ?_, I.mkJ⟩
          · rcases (hD' j).1 hDj with rfl | hDj
            · exact hdi
            · exact I.sub j hj hDj
          · obtain ⟨ac', t1, t2, t3, t4, t5, t6, t7⟩ := I.mkI j oj hj hoj hcj
            refine ⟨ac', t1, t2, t3, t4, t5, t6, fun hn => ?_⟩
            have hn' : ¬ DL listed j := fun h => hn ((hD' j).2 (.inr h))
            have hji : j ≠ i := fun h => hn ((hD' j).2 (.inl h))
            refine ⟨?_, (t7 hn').2⟩
            have hne : nu j ≠ nu i := fun e => hji (I.mkJ j i oj o hj hoj hcj hdi hao hc1 e)
            simp only [upd, if_neg hne]
            exact (t7 hn').1
        · -- any other
          have hdi : Nat.testBit done i = false := by
            cases hd : Nat.testBit done i with
            | false => rfl
            | true => exact absurd (I.effD i (I.s2 i o hd hao hc0 hc1)) hnD
          obtain ⟨l', rfl⟩ := hdone.resolve_left (by rw [hdi]; simp)
          cases I.run with
          | look h1 _ _ _ _ h2 => rw [hao] at h1; obtain rfl := Option.some.inj h1; exact absurd h2 hc0
          | mk h1 _ _ _ _ h2 => rw [hao] at h1; obtain rfl := Option.some.inj h1; exact absurd h2 hc1
          | @eff _ _ o' anc' _ _ _ _ _ _ _ H' _ v h1 h2 h3 h4 h5 h6 h7 h8 hE hrun =>
            rw [hao] at h1; obtain rfl := Option.some.inj h1
            rw [hm] at h2; obtain rfl := Option.some.inj h2
            have hv : ∀ d, o.dst = some d → getP (posOf 24 d) tsF = some v := fun d hd => by
              have hmw := mem_writersOf (i := 0) hao hd
              rw [Nat.zero_add] at hmw
              rw [slots_fixed hw hN hrun ((onceW_spec hw).1 d i hmw) fun j' hj' => by rw [(onceW_spec hw).2 d j' i hj' hmw]; exact bits_bitOr.2 (.inr rfl)]
              exact put_get hd
            have hE' := Ev_fixed (At_fixed hw hN I.run h4) hE
            refine ev_wp hio hall hs I.hr hρ hE' fun ψ cv w' r1 r2 r3 => ?_
            obtain ⟨p1, p2, p3, p4⟩ := put_rel hw I hao r3.sub r1 hv
            have oldD : ∀ j, Nat.testBit (bitOr done i) j = true → j ≠ i → Nat.testBit done j = true := fun j hj hne => (bits_bitOr.1 hj).resolve_right hne
            have I' : Inv P call N mask all ancs tsF HF φ0 H0 w0 a0 (DL (listed.setIfInBounds i true)) l' (bitOr done i) (diffM opn m) 0 (bitOr eff i) (putS o v ts) H' nu ob vl ψ (a.put o.dst cv) w' := by
              refine ⟨hrun, fun j oj hj hoj hcj => ?_, fun j oj hj hoj g0 g1 => ?_, (fun j hj => by rw [bits_zero] at hj; cases hj), fun j hj hDj => ?_, fun e he => ?_, hcla, r2, I.ext.trans r3,
                fun j oj d u hDj => p1 j oj d u ((hD' j).1 hDj), p2, p3, p4, fun j oj hj hoj hcj => ?_, fun j k oj ok hj hoj hcj hk hok hck e => ?_⟩
              · have hji : j ≠ i := by rintro rfl; rw [hao] at hoj; obtain rfl := Option.some.inj hoj; exact hc0 hcj
                rcases I.s1 j oj (oldD j hj hji) hoj hcj with g | ⟨e, me, g1, g2, g3⟩
                · cases hb : Nat.testBit m j with
                  | true => exact .inr ⟨i, m, bits_bitOr.2 (.inr rfl), hm, hb⟩
                  | false => left; rw [bits_diff, g, hb]; rfl
                · exact .inr ⟨e, me, bits_bitOr.2 (.inl g1), g2, g3⟩
              · by_cases hji : j = i
                · exact bits_bitOr.2 (.inr hji)
                · exact bits_bitOr.2 (.inl (I.s2 j oj (oldD j hj hji) hoj g0 g1))
              · rcases (hD' j).1 hDj with rfl | hDj
                · exact bits_bitOr.2 (.inr rfl)
                · exact bits_bitOr.2 (.inl (I.sub j hj hDj))
              · rcases bits_bitOr.1 he with he | he
                · exact (hD' e).2 (.inr (I.effD e he))
                · exact (hD' e).2 (.inl he)
              · have hji : j ≠ i := by rintro rfl; rw [hao] at hoj; obtain rfl := Option.some.inj hoj; exact hc1 hcj
                obtain ⟨ac', t1, t2, t3, t4, t5, t6, t7⟩ := I.mkI j oj (oldD j hj hji) hoj hcj
                refine ⟨ac', t1, t2, Nat.lt_of_lt_of_le t3 r3.nxt, t4, t5, t6, fun hn => ?_⟩
                have hn' : ¬ DL listed j := fun h => hn ((hD' j).2 (.inr h))
                obtain ⟨u1, u2⟩ := t7 hn'
                refine ⟨?_, fun x hx => u2 x (r3.ghost _ _ t3 u1 hx)⟩
                cases hp : ψ (nu j) with
                | none => rfl
                | some c =>
                  rcases r3.dom _ _ hp with h | h
                  · rw [u1] at h; cases h
                  · omega
              · have hji : j ≠ i := by rintro rfl; rw [hao] at hoj; obtain rfl := Option.some.inj hoj; exact hc1 hcj
                have hki : k ≠ i := by rintro rfl; rw [hao] at hok; obtain rfl := Option.some.inj hok; exact hc1 hck
                exact I.mkJ j k oj ok (oldD j hj hji) hoj hcj (oldD k hk hki) hok hck e
            obtain ⟨l2, done2, opn2, fresh2, ts2, H2, nu2, ob2, vl2, hseg2, I2⟩ := advance hw hN I'
            exact ih (listed.setIfInBounds i true) hz' hcl' hlt' hf' hseg2 I2
end
end Go.Fx
