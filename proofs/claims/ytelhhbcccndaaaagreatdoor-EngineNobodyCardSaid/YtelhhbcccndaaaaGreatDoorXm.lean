import Derived.Test.YtelhhbcccndaaaaGreatDoorXl
/-! Each compiled operation. -/
namespace Go.Fx
set_option linter.unusedVariables false
set_option linter.unusedSimpArgs false

section
variable {P : Program} {x : XR} (hx : x ≠ .fail) {call : CallT} {stk : List AV} {ts : VT} {H : Hp} {c : K} {res : Operand → CO}
include hx

theorem hget_inv {i : Nat} {k : AObj → XR} (h : hget H i k = x) : ∃ o, H.get i = some o ∧ k o = x := by
  cases H with
  | mk n t => exact optK_inv hx h
theorem asCells_inv {o : AObj} {k : VT → Nat → Option Nat → Nat → XR} (h : asCells o k = x) : ∃ m e fz sz, o = .cells m e fz sz ∧ k m e fz sz = x := by
  cases o <;> first | exact absurd h.symm hx | exact ⟨_, _, _, _, rfl, h⟩
theorem notAgg_inv {v : AV} {k : XR} (h : notAgg v k = x) : v.isVal = true ∧ v.cells = [v] ∧ k = x := by
  cases v <;> first | exact absurd h.symm hx | exact ⟨rfl, rfl, h⟩
omit hx in
theorem hputK_eq (H : Hp) (i : Nat) (o : AObj) : hputK H i o = H.put i o := by cases H; rfl
omit hx in
theorem fzOkK_eq (fz : Option Nat) (o : Nat) : fzOkK fz o = fzOk fz o := by cases fz <;> rfl
omit hx in
theorem natNth_eq : ∀ (i : Nat) (l : List Nat), natNth i l = l[i]?
  | 0, [] => rfl
  | 0, a :: l => rfl
  | i + 1, [] => rfl
  | i + 1, a :: l => by
    show natNth i l = _
    rw [natNth_eq i l]; rfl

noncomputable abbrev At (res : Operand → CO) (stk : List AV) (ts : VT) : Operand → Option AV := fun y => evC (res y) stk ts

theorem two_spec {p q : Operand} {f : IntKind → Int → Int → Option AV} {g : IntKind → Int → Int → AV} (hf : ∀ k m n, f k m n = some (g k m n)) (h : twoInts (res p) (res q) stk ts (fun k m n => c (g k m n) H) = x) :
    ∃ r, specA (.p2 p q (int2 f)) (At res stk ts) H = some r ∧ After call c x r := by
  obtain ⟨k, m, n, h1, h2, h3⟩ := twoInts_inv hx h
  refine ⟨.val (g k m n) H, ?_, h3⟩
  have : int2 f (.int k m) (.int k n) = some (g k m n) := by
    show cond (Nat.beq (kn k) (kn k)) (f k m n) none = _
    rw [(beq_iff _ _).2 rfl, cond_true, hf]
  simp [specA, At, h1, h2, this, valO]

theorem intK_inv {op : BinOp} {t : TypeId} {p q : Operand} {k : IntKind} (ht : undF P t = some (.int k)) (h : runO (intK op (res p) (res q) (specK res (binSpec P op t p q))) call stk ts H c = x) :
    ∃ r, specA (binSpec P op t p q) (At res stk ts) H = some r ∧ After call c x r := by
  have hb : ∀ f, intBin op = some f → op ≠ .shl → op ≠ .shr → binSpec P op t p q = .p2 p q (int2 f) := by
    intro f hf h1 h2
    unfold binSpec
    split
    · exact absurd rfl h1
    · exact absurd rfl h2
    · rw [ht]; simp only [hf]
  unfold intK at h
  split at h
  · rw [hb _ rfl (by decide) (by decide)]; exact two_spec hx (fun _ _ _ => rfl) h
  · rw [hb _ rfl (by decide) (by decide)]
    refine two_spec hx (g := fun _ m n => .bool (not (or (intLt m n) (intEq m n)))) (fun _ _ _ => rfl) h
  · rw [hb _ rfl (by decide) (by decide)]; exact two_spec hx (fun _ _ _ => rfl) h
  · rw [hb _ rfl (by decide) (by decide)]; exact two_spec hx (g := fun _ m n => .bool (not (intLt m n))) (fun _ _ _ => rfl) h
  · rw [hb _ rfl (by decide) (by decide)]; exact two_spec hx (fun _ _ _ => rfl) h
  · rw [hb _ rfl (by decide) (by decide)]; exact two_spec hx (g := fun _ m n => .bool (not (intEq m n))) (fun _ _ _ => rfl) h
  · rw [hb _ rfl (by decide) (by decide)]
    refine two_spec hx (g := fun k m n => .int k (wrapF k (Int.add m n))) (fun _ _ _ => rfl) ?_
    rw [← h]; show _ = twoInts _ _ _ _ _; congr 1; funext k m n; rw [wrapK_eq]
  · rw [hb _ rfl (by decide) (by decide)]
    refine two_spec hx (g := fun k m n => .int k (wrapF k (Int.sub m n))) (fun _ _ _ => rfl) ?_
    rw [← h]; show _ = twoInts _ _ _ _ _; congr 1; funext k m n; rw [wrapK_eq]
  · rw [hb _ rfl (by decide) (by decide)]
    refine two_spec hx (g := fun k m n => .int k (wrapF k (Int.mul m n))) (fun _ _ _ => rfl) ?_
    rw [← h]; show _ = twoInts _ _ _ _ _; congr 1; funext k m n; rw [wrapK_eq]
  · exact specK_inv hx h

/-- each operation -/
theorem opK_inv {o : Oper} (h : runO (opK P res o) call stk ts H c = x) : ∃ r, opA P (At res stk ts) H o = some r ∧ After call c x r := by
  rw [opA_eq]
  obtain ⟨dst, op, ty, pos, after, guard⟩ := o
  have gen : runO (specK res (spec P ⟨dst, op, ty, pos, after, guard⟩)) call stk ts H c = x → ∃ r, specA (spec P ⟨dst, op, ty, pos, after, guard⟩) (At res stk ts) H = some r ∧ After call c x r := specK_inv hx
  cases op
  case move y => exact specK_inv hx (s := .p1 y some) (by
    obtain ⟨a, h1, h2⟩ := evK_inv hx (show evK (res y) stk ts (fun a => c a H) = x from h)
    show evK (res y) stk ts (fun a => optK (some a) fun v => c v H) = x
    rw [evK_eq, h1]; exact h2)
  case assign y => exact specK_inv hx (s := .p1 y some) (by
    obtain ⟨a, h1, h2⟩ := evK_inv hx (show evK (res y) stk ts (fun a => c a H) = x from h)
    show evK (res y) stk ts (fun a => optK (some a) fun v => c v H) = x
    rw [evK_eq, h1]; exact h2)
  case binOp op t p q u =>
    simp only [opK] at h
    split at h
    · rename_i k hk; exact intK_inv hx hk h
    · exact gen h
  case nilCheck y =>
    obtain ⟨a, h1, h2⟩ := evK_inv hx (show evK (res y) stk ts (fun a => asPtr a fun i o => c a H) = x from h)
    obtain ⟨i, o, rfl, h3⟩ := asPtr_inv hx h2
    exact ⟨.val (.ptr i o) H, by simp [spec, specA, At, h1, nilCheckF, valO], h3⟩
  case fieldAddr t y f =>
    simp only [opK] at h
    split at h
    · rename_i g hg
      cases hc : Nat.beq g.2.1 0 with
      | true => rw [hc] at h; exact absurd h.symm hx
      | false =>
        rw [hc, cond_false] at h
        obtain ⟨a, h1, h2⟩ := evK_inv hx (show evK (res y) stk ts (fun a => asPtr a fun i o => c (.ptr i (Nat.add o g.1)) H) = x from h)
        obtain ⟨i, o, rfl, h3⟩ := asPtr_inv hx h2
        exact ⟨.val (.ptr i (Nat.add o g.1)) H, by simp [spec, specA, At, h1, hg, hc, fieldAddrF, valO], h3⟩
    · exact absurd h.symm hx
  case load t y =>
    simp only [opK] at h
    split at h
    · rename_i hg
      obtain ⟨a, h1, h2⟩ := evK_inv hx (show evK (res y) stk ts (fun a => asPtr a fun i o => hget H i fun ob => asCells ob fun m _ _ _ => optK (getN m o) fun v => c v H) = x from h)
      obtain ⟨i, o, rfl, h3⟩ := asPtr_inv hx h2
      obtain ⟨ob, h4, h5⟩ := hget_inv hx h3
      obtain ⟨m, e, fz, sz, rfl, h6⟩ := asCells_inv hx h5
      obtain ⟨v, h7, h8⟩ := optK_inv hx h6
      exact ⟨.val v H, by simp [spec, specA, At, h1, hg, loadF1, cellAt, h4, h7, valO], h8⟩
    · exact gen h
  case store t y z =>
    simp only [opK] at h
    split at h
    · rename_i hs
      split at h
      · obtain ⟨a, h1, h2⟩ := evK_inv hx (show evK (res y) stk ts (fun p => asPtr p fun i o => evK (res z) stk ts fun v => notAgg v (hget H i fun ob => asCells ob fun m e fz sz =>
          ifK (fzOkK fz o) (ifK (isSomeK (getN m o)) (c undefA (hputK H i (.cells (setN (some v) (nat_lit 24) m o) e fz sz)))))) = x from h)
        obtain ⟨i, o, rfl, h3⟩ := asPtr_inv hx h2
        obtain ⟨v, h4, h5⟩ := evK_inv hx h3
        obtain ⟨hv, hvc, h6⟩ := notAgg_inv hx h5
        obtain ⟨ob, h7, h8⟩ := hget_inv hx h6
        obtain ⟨m, e, fz, sz, rfl, h9⟩ := asCells_inv hx h8
        obtain ⟨g1, h10⟩ := ifK_inv hx h9
        obtain ⟨g2, h11⟩ := ifK_inv hx h10
        rw [fzOkK_eq] at g1
        rw [hputK_eq] at h11
        refine ⟨.val undefA (H.put i (.cells (setN (some v) 24 m o) e fz sz)), ?_, h11⟩
        have hin : allIn m 1 o = true := by
          rw [allIn_succ, Bool.and_eq_true]
          refine ⟨?_, rfl⟩
          cases hm : getN m o with
          | none => rw [hm] at g2; cases g2
          | some _ => rfl
        have hst : storeAt H i o [v] = some (H.put i (.cells (setN (some v) 24 m o) e fz sz)) := by
          unfold storeAt
          rw [h7]
          have : (fzOk fz o && allIn m (lenL [v]) o && allVal [v]) = true := by
            rw [g1, allVal_cons, hv]; show (true && allIn m 1 o && (true && true)) = true; rw [hin]; rfl
          simp only [this, cond_true]
          rfl
        have : storeF 1 (.ptr i o) v H = some (.val undefA (H.put i (.cells (setN (some v) 24 m o) e fz sz))) := by
          unfold storeF
          simp only [hvc]
          rw [show Nat.beq (lenL [v]) 1 = true from rfl, cond_true, hst]; rfl
        simp only [spec, hs]
        simp [specA, At, h1, h4, this]
      · exact gen h
    · exact gen h
  case indexAddr t y z =>
    simp only [opK] at h
    split at h
    · rename_i e ht
      split at h
      · rename_i s hs
        obtain ⟨a, h1, h2⟩ := evK_inv hx (show evK (res y) stk ts (fun p => evK (res z) stk ts fun a => asSlice p fun i o len _ => asNat a fun n => ifK (Nat.blt n len) (c (.ptr i (Nat.add o (Nat.mul n s))) H)) = x from h)
        obtain ⟨b, h3, h4⟩ := evK_inv hx h2
        obtain ⟨i, o, n, cp, rfl, h5⟩ := asSlice_inv hx h4
        obtain ⟨k, m, rfl, h6⟩ := asNat_inv hx h5
        obtain ⟨g1, h7⟩ := ifK_inv hx h6
        exact ⟨.val (.ptr i (Nat.add o (Nat.mul m s))) H, by simp only [spec, ht, hs]; simp [specA, At, h1, h3, idxSl, g1, valO], h7⟩
      · exact absurd h.symm hx
    · rename_i len e ht
      split at h
      · rename_i s hs
        obtain ⟨a, h1, h2⟩ := evK_inv hx (show evK (res y) stk ts (fun p => evK (res z) stk ts fun a => asPtr p fun i o => asNat a fun n => ifK (Nat.blt n len) (c (.ptr i (Nat.add o (Nat.mul n s))) H)) = x from h)
        obtain ⟨b, h3, h4⟩ := evK_inv hx h2
        obtain ⟨i, o, rfl, h5⟩ := asPtr_inv hx h4
        obtain ⟨k, m, rfl, h6⟩ := asNat_inv hx h5
        obtain ⟨g1, h7⟩ := ifK_inv hx h6
        exact ⟨.val (.ptr i (Nat.add o (Nat.mul m s))) H, by simp only [spec, ht, hs]; simp [specA, At, h1, h3, idxArr, g1, valO], h7⟩
      · exact absurd h.symm hx
    · exact absurd h.symm hx
  case index t y z =>
    simp only [opK] at h
    split at h
    · rename_i ht
      obtain ⟨a, h1, h2⟩ := evK_inv hx (show evK (res y) stk ts (fun p => evK (res z) stk ts fun a => asStr p fun s => asNat a fun n => optK (natNth n s) fun b => c (.int .u8 (.ofNat b)) H) = x from h)
      obtain ⟨b, h3, h4⟩ := evK_inv hx h2
      obtain ⟨s, rfl, h5⟩ := asStr_inv hx h4
      obtain ⟨k, m, rfl, h6⟩ := asNat_inv hx h5
      obtain ⟨v, h7, h8⟩ := optK_inv hx h6
      rw [natNth_eq] at h7
      exact ⟨.val (.int .u8 (.ofNat v)) H, by simp only [spec, ht]; simp [specA, At, h1, h3, indexStr, h7, valO], h8⟩
    · exact gen h
  case convert s d y =>
    simp only [opK] at h
    split at h
    · rename_i k k' hs hd
      obtain ⟨a, h1, h2⟩ := evK_inv hx (show evK (res y) stk ts (fun a => asInt a fun _ m => wrapK k' m fun r => c (.int k' r) H) = x from h)
      obtain ⟨j, m, rfl, h3⟩ := asInt_inv hx h2
      rw [wrapK_eq] at h3
      exact ⟨.val (.int k' (wrapF k' m)) H, by simp only [spec, convSpec, hs, hd]; simp [specA, At, h1, convInt, valO], h3⟩
    · exact gen h
  case call cl =>
    simp only [opK] at h
    split at h
    · rename_i f hf
      obtain ⟨l, h1, h2⟩ := evArgs_inv hx (show evArgs (cl.args.toList.map res) stk ts (fun l => callBack (call f l H) c) = x from h)
      obtain ⟨v, H', h3, h4⟩ := callBack_inv hx h2
      exact ⟨.enter f l H, by simp only [spec, hf]; simp [specA, At, h1], v, H', h3, h4⟩
    · exact gen h
  all_goals exact gen h
end
end Go.Fx
