import Derived.Test.YtaaibffnehmaiaaGreatDoorXe
import Derived.Test.YtaaibffnehmaiaaGreatDoorXk
/-! The twin's closures say what the operations' functions say. -/
namespace Go.Fx
set_option linter.unusedVariables false
set_option linter.unusedSimpArgs false

/-! places of slots -/
theorem getP_setP_self (x : Option AV) : ∀ (p : Pos) (t : VT), getP p (setP p x t) = x
  | .h, t => by cases t <;> rfl
  | .o p, t => by cases t <;> exact getP_setP_self x p _
  | .i p, t => by cases t <;> exact getP_setP_self x p _
theorem getP_E : ∀ p, getP p .E = none
  | .h => rfl
  | .o _ => rfl
  | .i _ => rfl
theorem getP_setP_ne (x : Option AV) : ∀ (p q : Pos) (t : VT), p ≠ q → getP q (setP p x t) = getP q t
  | .h, .h, t, h => absurd rfl h
  | .h, .o q, t, _ => by cases t <;> first | rfl | exact getP_E q
  | .h, .i q, t, _ => by cases t <;> first | rfl | exact getP_E q
  | .o p, .h, t, _ => by cases t <;> rfl
  | .i p, .h, t, _ => by cases t <;> rfl
  | .o p, .i q, t, _ => by cases t <;> first | rfl | exact getP_E q
  | .i p, .o q, t, _ => by cases t <;> first | rfl | exact getP_E q
  | .o p, .o q, t, h => by
    have h' : p ≠ q := fun e => h (by rw [e])
    cases t with
    | E => exact (getP_setP_ne x p q .E h').trans (getP_E q)
    | N v l r => exact getP_setP_ne x p q l h'
  | .i p, .i q, t, h => by
    have h' : p ≠ q := fun e => h (by rw [e])
    cases t with
    | E => exact (getP_setP_ne x p q .E h').trans (getP_E q)
    | N v l r => exact getP_setP_ne x p q r h'
theorem posOf_succ (n j : Nat) : posOf (n + 1) (j + 1) = if j % 2 = 0 then .o (posOf n (j / 2)) else .i (posOf n (j / 2)) := by
  show Bool.rec (motive := fun _ => Pos) (.i (posOf n (j / 2))) (.o (posOf n (j / 2))) (Nat.beq (j % 2) 0) = _
  by_cases h : j % 2 = 0
  · rw [if_pos h, h]; rfl
  · rw [if_neg h, beq_ff h]
theorem posOf_inj : ∀ (n k k' : Nat), k < 2 ^ n → k' < 2 ^ n → posOf n k = posOf n k' → k = k'
  | 0, k, k', h, h', _ => by simp at h h'; omega
  | n + 1, 0, 0, _, _, _ => rfl
  | n + 1, 0, k' + 1, _, _, e => by
    rw [posOf_succ] at e
    have : posOf (n + 1) 0 = .h := rfl
    rw [this] at e; split at e <;> cases e
  | n + 1, k + 1, 0, _, _, e => by
    rw [posOf_succ] at e
    have : posOf (n + 1) 0 = .h := rfl
    rw [this] at e; split at e <;> cases e
  | n + 1, k + 1, k' + 1, h, h', e => by
    rw [posOf_succ, posOf_succ] at e
    rw [Nat.pow_succ] at h h'
    split at e <;> split at e
    · have := posOf_inj n _ _ (by omega) (by omega) (Pos.o.inj e); omega
    · cases e
    · cases e
    · have := posOf_inj n _ _ (by omega) (by omega) (Pos.i.inj e); omega

/-! operands -/
theorem nthK_eq : ∀ (i : Nat) (l : List AV) (k : AV → XR), nthK i l k = optK l[i]? k
  | 0, [], k => rfl
  | 0, a :: l, k => rfl
  | i + 1, [], k => rfl
  | i + 1, a :: l, k => by
    show nthK i l k = _
    rw [nthK_eq i l k]; rfl
theorem evK_eq (c : CO) (stk : List AV) (ts : VT) (k : AV → XR) : evK c stk ts k = optK (evC c stk ts) k := by
  cases c with
  | loc i => exact nthK_eq i stk k
  | var p => rfl
  | cst v => rfl
  | bad => rfl

section
variable {x : XR} (hx : x ≠ .fail)
include hx
theorem optK_inv {α : Type} {o : Option α} {k : α → XR} (h : optK o k = x) : ∃ v, o = some v ∧ k v = x := by
  cases o with
  | none => exact absurd h.symm hx
  | some v => exact ⟨v, rfl, h⟩
theorem evK_inv {c : CO} {stk : List AV} {ts : VT} {k : AV → XR} (h : evK c stk ts k = x) : ∃ v, evC c stk ts = some v ∧ k v = x := by
  rw [evK_eq] at h; exact optK_inv hx h
theorem asInt_inv {v : AV} {k : IntKind → Int → XR} (h : asInt v k = x) : ∃ i n, v = .int i n ∧ k i n = x := by
  cases v <;> first | exact absurd h.symm hx | exact ⟨_, _, rfl, h⟩
theorem asBool_inv {v : AV} {k : Bool → XR} (h : asBool v k = x) : ∃ b, v = .bool b ∧ k b = x := by
  cases v <;> first | exact absurd h.symm hx | exact ⟨_, rfl, h⟩
theorem asPtr_inv {v : AV} {k : Nat → Nat → XR} (h : asPtr v k = x) : ∃ i o, v = .ptr i o ∧ k i o = x := by
  cases v <;> first | exact absurd h.symm hx | exact ⟨_, _, rfl, h⟩
theorem asStr_inv {v : AV} {k : List Nat → XR} (h : asStr v k = x) : ∃ s, v = .str s ∧ k s = x := by
  cases v <;> first | exact absurd h.symm hx | exact ⟨_, rfl, h⟩
theorem asSlice_inv {v : AV} {k : Nat → Nat → Nat → Cp → XR} (h : asSlice v k = x) : ∃ i o n c, v = .slice i o n c ∧ k i o n c = x := by
  cases v <;> first | exact absurd h.symm hx | exact ⟨_, _, _, _, rfl, h⟩
theorem asNat_inv {v : AV} {k : Nat → XR} (h : asNat v k = x) : ∃ i n, v = .int i (.ofNat n) ∧ k n = x := by
  obtain ⟨i, n, rfl, h⟩ := asInt_inv hx h
  cases n with
  | ofNat n => exact ⟨i, n, rfl, h⟩
  | negSucc n => exact absurd h.symm hx
theorem ifK_inv {b : Bool} {t : XR} (h : ifK b t = x) : b = true ∧ t = x := by
  cases b with
  | false => exact absurd h.symm hx
  | true => exact ⟨rfl, h⟩
theorem twoInts_inv {p q : CO} {stk : List AV} {ts : VT} {c : IntKind → Int → Int → XR} (h : twoInts p q stk ts c = x) :
    ∃ k m n, evC p stk ts = some (.int k m) ∧ evC q stk ts = some (.int k n) ∧ c k m n = x := by
  obtain ⟨a, h1, g1⟩ := evK_inv hx h
  obtain ⟨b, h2, g2⟩ := evK_inv hx g1
  obtain ⟨k, m, ea, g3⟩ := asInt_inv hx g2
  obtain ⟨k', n, eb, g4⟩ := asInt_inv hx g3
  obtain ⟨h3, g5⟩ := ifK_inv hx g4
  have := kn_inj h3; subst this; subst ea; subst eb
  exact ⟨_, _, _, h1, h2, g5⟩
omit hx in
theorem wrapK_eq (k : IntKind) (n : Int) (c : Int → XR) : wrapK k n c = c (wrapF k n) := by
  cases n with
  | ofNat a =>
    show Bool.rec (motive := fun _ => XR) (c (k.wrap (.ofNat a))) (c (.ofNat a)) (Nat.blt a (half k)) = c (cond (Nat.blt a (half k)) (.ofNat a) (k.wrap (.ofNat a)))
    cases Nat.blt a (half k) <;> rfl
  | negSucc a => rfl

/-- what follows an operation's result -/
def After (call : CallT) (c : K) (x : XR) : R → Prop
  | .val v H' => c v H' = x
  | .enter f args H' => ∃ v H'', call f args H' = some (v, H'') ∧ c v H'' = x

theorem callBack_inv {r : Option (Prod AV Hp)} {c : K} (h : callBack r c = x) : ∃ v H', r = some (v, H') ∧ c v H' = x := by
  cases r with
  | none => exact absurd h.symm hx
  | some r => exact ⟨r.1, r.2, rfl, h⟩
theorem afterR_inv {r : Option R} {call : CallT} {c : K} (h : afterR r call c = x) : ∃ r', r = some r' ∧ After call c x r' := by
  obtain ⟨r', h1, h⟩ := optK_inv hx h
  refine ⟨r', h1, ?_⟩
  cases r' with
  | val v H' => exact h
  | enter f args H' => exact callBack_inv hx h

variable {call : CallT} {stk : List AV} {ts : VT} {H : Hp} {c : K} {res : Operand → CO}

theorem evArgs_inv : ∀ {xs : List Operand} {k : List AV → XR}, evArgs (xs.map res) stk ts k = x → ∃ l, evalAll (fun y => evC (res y) stk ts) xs = some l ∧ k l = x
  | [], k, h => ⟨[], rfl, h⟩
  | y :: xs, k, h => by
    obtain ⟨v, h1, h⟩ := evK_inv hx (show evK (res y) stk ts (fun v => evArgs (xs.map res) stk ts fun l => k (v :: l)) = x from h)
    obtain ⟨l, h2, h⟩ := evArgs_inv h
    refine ⟨v :: l, ?_, h⟩
    show (evC (res y) stk ts).bind _ = _
    rw [h1, Option.bind_some, h2]; rfl

theorem specK_inv {s : Spec} (h : runO (specK res s) call stk ts H c = x) : ∃ r, specA s (fun y => evC (res y) stk ts) H = some r ∧ After call c x r := by
  cases s with
  | p1 y f =>
    obtain ⟨a, h1, h⟩ := evK_inv hx (show evK (res y) stk ts (fun a => optK (f a) fun v => c v H) = x from h)
    obtain ⟨v, h2, h⟩ := optK_inv hx h
    exact ⟨.val v H, by simp [specA, h1, h2, valO], h⟩
  | p2 y z f =>
    obtain ⟨a, h1, h⟩ := evK_inv hx (show evK (res y) stk ts (fun a => evK (res z) stk ts fun b => optK (f a b) fun v => c v H) = x from h)
    obtain ⟨b, h3, h⟩ := evK_inv hx h
    obtain ⟨v, h2, h⟩ := optK_inv hx h
    exact ⟨.val v H, by simp [specA, h1, h3, h2, valO], h⟩
  | pl xs f =>
    obtain ⟨l, h1, h⟩ := evArgs_inv hx (show evArgs (xs.map res) stk ts (fun l => optK (f l) fun v => c v H) = x from h)
    obtain ⟨v, h2, h⟩ := optK_inv hx h
    exact ⟨.val v H, by simp [specA, h1, h2, valO], h⟩
  | l1 y f =>
    obtain ⟨a, h1, h⟩ := evK_inv hx (show evK (res y) stk ts (fun a => optK (f a H) fun v => c v H) = x from h)
    obtain ⟨v, h2, h⟩ := optK_inv hx h
    exact ⟨.val v H, by simp [specA, h1, h2, valO], h⟩
  | l2 y z f =>
    obtain ⟨a, h1, h⟩ := evK_inv hx (show evK (res y) stk ts (fun a => evK (res z) stk ts fun b => optK (f a b H) fun v => c v H) = x from h)
    obtain ⟨b, h3, h⟩ := evK_inv hx h
    obtain ⟨v, h2, h⟩ := optK_inv hx h
    exact ⟨.val v H, by simp [specA, h1, h3, h2, valO], h⟩
  | h0 f => exact afterR_inv hx h
  | h1 y f =>
    obtain ⟨a, h1, h⟩ := evK_inv hx (show evK (res y) stk ts (fun a => afterR (f a H) call c) = x from h)
    obtain ⟨r, h2, h⟩ := afterR_inv hx h
    exact ⟨r, by simp [specA, h1, h2], h⟩
  | h2 y z f =>
    obtain ⟨a, h1, h⟩ := evK_inv hx (show evK (res y) stk ts (fun a => evK (res z) stk ts fun b => afterR (f a b H) call c) = x from h)
    obtain ⟨b, h3, h⟩ := evK_inv hx h
    obtain ⟨r, h2, h⟩ := afterR_inv hx h
    exact ⟨r, by simp [specA, h1, h3, h2], h⟩
  | h3 y z u f =>
    obtain ⟨a, h1, h⟩ := evK_inv hx (show evK (res y) stk ts (fun a => evK (res z) stk ts fun b => evK (res u) stk ts fun d => afterR (f a b d H) call c) = x from h)
    obtain ⟨b, h3, h⟩ := evK_inv hx h
    obtain ⟨d, h4, h⟩ := evK_inv hx h
    obtain ⟨r, h2, h⟩ := afterR_inv hx h
    exact ⟨r, by simp [specA, h1, h3, h4, h2], h⟩
  | hl xs f =>
    obtain ⟨l, h1, h⟩ := evArgs_inv hx (show evArgs (xs.map res) stk ts (fun l => afterR (f l H) call c) = x from h)
    obtain ⟨r, h2, h⟩ := afterR_inv hx h
    exact ⟨r, by simp [specA, h1, h2], h⟩
  | pick q y z =>
    obtain ⟨a, h1, h⟩ := evK_inv hx (show evK (res q) stk ts (fun a => asBool a fun b => evK (Bool.rec (motive := fun _ => CO) (res z) (res y) b) stk ts fun v => c v H) = x from h)
    obtain ⟨b, rfl, h⟩ := asBool_inv hx h
    obtain ⟨v, h2, h⟩ := evK_inv hx h
    refine ⟨.val v H, ?_, h⟩
    cases b <;> (simp only at h2; simp [specA, h1, valO, h2])
  | bad => exact absurd h.symm hx
end
end Go.Fx

/-! Each compiled operation. -/
namespace Go.Fx
set_option linter.unusedVariables false
set_option linter.unusedSimpArgs false

section
variable {P : Program} {x : XR} (hx : x ≠ .fail) {call : CallT} {stk : List AV} {ts : VT} {H : Hp} {c : K} {res : Operand → CO}
include hx

theorem hget_inv {i : Nat} {k : AObj → XR} (h : hget H i k = x) : ∃ o, H.get i = some o ∧ k o = x := by
  cases H with
  | mk n t => exact optK_inv hx h
theorem asCells_inv {o : AObj} {k : VT → Nat → Option Nat → Nat → XR} (h : asCells o k = x) : ∃ m e fz sz, o = .cells m e fz sz ∧ k m e fz sz = x := by
  cases o <;> first | exact absurd h.symm hx | exact ⟨_, _, _, _, rfl, h⟩
theorem notAgg_inv {v : AV} {k : XR} (h : notAgg v k = x) : v.isVal = true ∧ v.cells = [v] ∧ k = x := by
  cases v <;> first | exact absurd h.symm hx | exact ⟨rfl, rfl, h⟩
omit hx in
theorem hputK_eq (H : Hp) (i : Nat) (o : AObj) : hputK H i o = H.put i o := by cases H; rfl
omit hx in
theorem fzOkK_eq (fz : Option Nat) (o : Nat) : fzOkK fz o = fzOk fz o := by cases fz <;> rfl
omit hx in
theorem natNth_eq : ∀ (i : Nat) (l : List Nat), natNth i l = l[i]?
  | 0, [] => rfl
  | 0, a :: l => rfl
  | i + 1, [] => rfl
  | i + 1, a :: l => by
    show natNth i l = _
    rw [natNth_eq i l]; rfl

noncomputable abbrev At (res : Operand → CO) (stk : List AV) (ts : VT) : Operand → Option AV := fun y => evC (res y) stk ts

theorem two_spec {p q : Operand} {f : IntKind → Int → Int → Option AV} {g : IntKind → Int → Int → AV} (hf : ∀ k m n, f k m n = some (g k m n)) (h : twoInts (res p) (res q) stk ts (fun k m n => c (g k m n) H) = x) :
    ∃ r, specA (.p2 p q (int2 f)) (At res stk ts) H = some r ∧ After call c x r := by
  obtain ⟨k, m, n, h1, h2, h3⟩ := twoInts_inv hx h
  refine ⟨.val (g k m n) H, ?_, h3⟩
  have : int2 f (.int k m) (.int k n) = some (g k m n) := by
    show cond (Nat.beq (kn k) (kn k)) (f k m n) none = _
    rw [(beq_iff _ _).2 rfl, cond_true, hf]
  simp [specA, At, h1, h2, this, valO]

theorem intK_inv {op : BinOp} {t : TypeId} {p q : Operand} {k : IntKind} (ht : undF P t = some (.int k)) (h : runO (intK op (res p) (res q) (specK res (binSpec P op t p q))) call stk ts H c = x) :
    ∃ r, specA (binSpec P op t p q) (At res stk ts) H = some r ∧ After call c x r := by
  have hb : ∀ f, intBin op = some f → op ≠ .shl → op ≠ .shr → binSpec P op t p q = .p2 p q (int2 f) := by
    intro f hf h1 h2
    unfold binSpec
    split
    · exact absurd rfl h1
    · exact absurd rfl h2
    · rw [ht]; simp only [hf]
  unfold intK at h
  split at h
  · rw [hb _ rfl (by decide) (by decide)]; exact two_spec hx (fun _ _ _ => rfl) h
  · rw [hb _ rfl (by decide) (by decide)]
    refine two_spec hx (g := fun _ m n => .bool (not (or (intLt m n) (intEq m n)))) (fun _ _ _ => rfl) h
  · rw [hb _ rfl (by decide) (by decide)]; exact two_spec hx (fun _ _ _ => rfl) h
  · rw [hb _ rfl (by decide) (by decide)]; exact two_spec hx (g := fun _ m n => .bool (not (intLt m n))) (fun _ _ _ => rfl) h
  · rw [hb _ rfl (by decide) (by decide)]; exact two_spec hx (fun _ _ _ => rfl) h
  · rw [hb _ rfl (by decide) (by decide)]; exact two_spec hx (g := fun _ m n => .bool (not (intEq m n))) (fun _ _ _ => rfl) h
  · rw [hb _ rfl (by decide) (by decide)]
    refine two_spec hx (g := fun k m n => .int k (wrapF k (Int.add m n))) (fun _ _ _ => rfl) ?_
    rw [← h]; show _ = twoInts _ _ _ _ _; congr 1; funext k m n; rw [wrapK_eq]
  · rw [hb _ rfl (by decide) (by decide)]
    refine two_spec hx (g := fun k m n => .int k (wrapF k (Int.sub m n))) (fun _ _ _ => rfl) ?_
    rw [← h]; show _ = twoInts _ _ _ _ _; congr 1; funext k m n; rw [wrapK_eq]
  · rw [hb _ rfl (by decide) (by decide)]
    refine two_spec hx (g := fun k m n => .int k (wrapF k (Int.mul m n))) (fun _ _ _ => rfl) ?_
    rw [← h]; show _ = twoInts _ _ _ _ _; congr 1; funext k m n; rw [wrapK_eq]
  · exact specK_inv hx h

/-- each operation -/
theorem opK_inv {o : Oper} (h : runO (opK P res o) call stk ts H c = x) : ∃ r, opA P (At res stk ts) H o = some r ∧ After call c x r := by
  rw [opA_eq]
  obtain ⟨dst, op, ty, pos, after, guard⟩ := o
  have gen : runO (specK res (spec P ⟨dst, op, ty, pos, after, guard⟩)) call stk ts H c = x → ∃ r, specA (spec P ⟨dst, op, ty, pos, after, guard⟩) (At res stk ts) H = some r ∧ After call c x r := specK_inv hx
  cases op
  case move y => exact specK_inv hx (s := .p1 y some) (by
    obtain ⟨a, h1, h2⟩ := evK_inv hx (show evK (res y) stk ts (fun a => c a H) = x from h)
    show evK (res y) stk ts (fun a => optK (some a) fun v => c v H) = x
    rw [evK_eq, h1]; exact h2)
  case assign y => exact specK_inv hx (s := .p1 y some) (by
    obtain ⟨a, h1, h2⟩ := evK_inv hx (show evK (res y) stk ts (fun a => c a H) = x from h)
    show evK (res y) stk ts (fun a => optK (some a) fun v => c v H) = x
    rw [evK_eq, h1]; exact h2)
  case binOp op t p q u =>
    simp only [opK] at h
    split at h
    · rename_i k hk; exact intK_inv hx hk h
    · exact gen h
  case nilCheck y =>
    obtain ⟨a, h1, h2⟩ := evK_inv hx (show evK (res y) stk ts (fun a => asPtr a fun i o => c a H) = x from h)
    obtain ⟨i, o, rfl, h3⟩ := asPtr_inv hx h2
    exact ⟨.val (.ptr i o) H, by simp [spec, specA, At, h1, nilCheckF, valO], h3⟩
  case fieldAddr t y f =>
    simp only [opK] at h
    split at h
    · rename_i g hg
      cases hc : Nat.beq g.2.1 0 with
      | true => rw [hc] at h; exact absurd h.symm hx
      | false =>
        rw [hc, cond_false] at h
        obtain ⟨a, h1, h2⟩ := evK_inv hx (show evK (res y) stk ts (fun a => asPtr a fun i o => c (.ptr i (Nat.add o g.1)) H) = x from h)
        obtain ⟨i, o, rfl, h3⟩ := asPtr_inv hx h2
        exact ⟨.val (.ptr i (Nat.add o g.1)) H, by simp [spec, specA, At, h1, hg, hc, fieldAddrF, valO], h3⟩
    · exact absurd h.symm hx
  case load t y =>
    simp only [opK] at h
    split at h
    · rename_i hg
      obtain ⟨a, h1, h2⟩ := evK_inv hx (show evK (res y) stk ts (fun a => asPtr a fun i o => hget H i fun ob => asCells ob fun m _ _ _ => optK (getN m o) fun v => c v H) = x from h)
      obtain ⟨i, o, rfl, h3⟩ := asPtr_inv hx h2
      obtain ⟨ob, h4, h5⟩ := hget_inv hx h3
      obtain ⟨m, e, fz, sz, rfl, h6⟩ := asCells_inv hx h5
      obtain ⟨v, h7, h8⟩ := optK_inv hx h6
      exact ⟨.val v H, by simp [spec, specA, At, h1, hg, loadF1, cellAt, h4, h7, valO], h8⟩
    · exact gen h
  case store t y z =>
    simp only [opK] at h
    split at h
    · rename_i hs
      split at h
      · obtain ⟨a, h1, h2⟩ := evK_inv hx (show evK (res y) stk ts (fun p => asPtr p fun i o => evK (res z) stk ts fun v => notAgg v (hget H i fun ob => asCells ob fun m e fz sz =>
          ifK (fzOkK fz o) (ifK (isSomeK (getN m o)) (c undefA (hputK H i (.cells (setN (some v) (nat_lit 24) m o) e fz sz)))))) = x from h)
        obtain ⟨i, o, rfl, h3⟩ := asPtr_inv hx h2
        obtain ⟨v, h4, h5⟩ := evK_inv hx h3
        obtain ⟨hv, hvc, h6⟩ := notAgg_inv hx h5
        obtain ⟨ob, h7, h8⟩ := hget_inv hx h6
        obtain ⟨m, e, fz, sz, rfl, h9⟩ := asCells_inv hx h8
        obtain ⟨g1, h10⟩ := ifK_inv hx h9
        obtain ⟨g2, h11⟩ := ifK_inv hx h10
        rw [fzOkK_eq] at g1
        rw [hputK_eq] at h11
        refine ⟨.val undefA (H.put i (.cells (setN (some v) 24 m o) e fz sz)), ?_, h11⟩
        have hin : allIn m 1 o = true := by
          rw [allIn_succ, Bool.and_eq_true]
          refine ⟨?_, rfl⟩
          cases hm : getN m o with
          | none => rw [hm] at g2; cases g2
          | some _ => rfl
        have hst : storeAt H i o [v] = some (H.put i (.cells (setN (some v) 24 m o) e fz sz)) := by
          unfold storeAt
          rw [h7]
          have : (fzOk fz o && allIn m (lenL [v]) o && allVal [v]) = true := by
            rw [g1, allVal_cons, hv]; show (true && allIn m 1 o && (true && true)) = true; rw [hin]; rfl
          simp only [this, cond_true]
          rfl
        have : storeF 1 (.ptr i o) v H = some (.val undefA (H.put i (.cells (setN (some v) 24 m o) e fz sz))) := by
          unfold storeF
          simp only [hvc]
          rw [show Nat.beq (lenL [v]) 1 = true from rfl, cond_true, hst]; rfl
        simp only [spec, hs]
        simp [specA, At, h1, h4, this]
      · exact gen h
    · exact gen h
  case indexAddr t y z =>
    simp only [opK] at h
    split at h
    · rename_i e ht
      split at h
      · rename_i s hs
        obtain ⟨a, h1, h2⟩ := evK_inv hx (show evK (res y) stk ts (fun p => evK (res z) stk ts fun a => asSlice p fun i o len _ => asNat a fun n => ifK (Nat.blt n len) (c (.ptr i (Nat.add o (Nat.mul n s))) H)) = x from h)
        obtain ⟨b, h3, h4⟩ := evK_inv hx h2
        obtain ⟨i, o, n, cp, rfl, h5⟩ := asSlice_inv hx h4
        obtain ⟨k, m, rfl, h6⟩ := asNat_inv hx h5
        obtain ⟨g1, h7⟩ := ifK_inv hx h6
        exact ⟨.val (.ptr i (Nat.add o (Nat.mul m s))) H, by simp only [spec, ht, hs]; simp [specA, At, h1, h3, idxSl, g1, valO], h7⟩
      · exact absurd h.symm hx
    · rename_i len e ht
      split at h
      · rename_i s hs
        obtain ⟨a, h1, h2⟩ := evK_inv hx (show evK (res y) stk ts (fun p => evK (res z) stk ts fun a => asPtr p fun i o => asNat a fun n => ifK (Nat.blt n len) (c (.ptr i (Nat.add o (Nat.mul n s))) H)) = x from h)
        obtain ⟨b, h3, h4⟩ := evK_inv hx h2
        obtain ⟨i, o, rfl, h5⟩ := asPtr_inv hx h4
        obtain ⟨k, m, rfl, h6⟩ := asNat_inv hx h5
        obtain ⟨g1, h7⟩ := ifK_inv hx h6
        exact ⟨.val (.ptr i (Nat.add o (Nat.mul m s))) H, by simp only [spec, ht, hs]; simp [specA, At, h1, h3, idxArr, g1, valO], h7⟩
      · exact absurd h.symm hx
    · exact absurd h.symm hx
  case index t y z =>
    simp only [opK] at h
    split at h
    · rename_i ht
      obtain ⟨a, h1, h2⟩ := evK_inv hx (show evK (res y) stk ts (fun p => evK (res z) stk ts fun a => asStr p fun s => asNat a fun n => optK (natNth n s) fun b => c (.int .u8 (.ofNat b)) H) = x from h)
      obtain ⟨b, h3, h4⟩ := evK_inv hx h2
      obtain ⟨s, rfl, h5⟩ := asStr_inv hx h4
      obtain ⟨k, m, rfl, h6⟩ := asNat_inv hx h5
      obtain ⟨v, h7, h8⟩ := optK_inv hx h6
      rw [natNth_eq] at h7
      exact ⟨.val (.int .u8 (.ofNat v)) H, by simp only [spec, ht]; simp [specA, At, h1, h3, indexStr, h7, valO], h8⟩
    · exact gen h
  case convert s d y =>
    simp only [opK] at h
    split at h
    · rename_i k k' hs hd
      obtain ⟨a, h1, h2⟩ := evK_inv hx (show evK (res y) stk ts (fun a => asInt a fun _ m => wrapK k' m fun r => c (.int k' r) H) = x from h)
      obtain ⟨j, m, rfl, h3⟩ := asInt_inv hx h2
      rw [wrapK_eq] at h3
      exact ⟨.val (.int k' (wrapF k' m)) H, by simp only [spec, convSpec, hs, hd]; simp [specA, At, h1, convInt, valO], h3⟩
    · exact gen h
  case call cl =>
    simp only [opK] at h
    split at h
    · rename_i f hf
      obtain ⟨l, h1, h2⟩ := evArgs_inv hx (show evArgs (cl.args.toList.map res) stk ts (fun l => callBack (call f l H) c) = x from h)
      obtain ⟨v, H', h3, h4⟩ := callBack_inv hx h2
      exact ⟨.enter f l H, by simp only [spec, hf]; simp [specA, At, h1], v, H', h3, h4⟩
    · exact gen h
  all_goals exact gen h
end
end Go.Fx
