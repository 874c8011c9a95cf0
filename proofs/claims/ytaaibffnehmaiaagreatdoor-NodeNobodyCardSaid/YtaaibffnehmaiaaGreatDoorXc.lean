import Derived.Test.YtaaibffnehmaiaaGreatDoorXb
import Derived.Laws.Strings
import Derived.Lib.Strings
/-! Numbers, texts, comparisons, slices. -/
namespace Go.Fx
set_option linter.unusedVariables false
set_option linter.unusedSimpArgs false

theorem blt_iff (a b : Nat) : Nat.blt a b = true ↔ a < b := by
  unfold Nat.blt; constructor
  · intro h; exact Nat.le_of_ble_eq_true h
  · intro h; exact Nat.ble_eq_true_of_le h
theorem ble_iff (a b : Nat) : Nat.ble a b = true ↔ a ≤ b := ⟨Nat.le_of_ble_eq_true, Nat.ble_eq_true_of_le⟩
theorem beq_iff (a b : Nat) : Nat.beq a b = true ↔ a = b := ⟨Nat.eq_of_beq_eq_true, fun h => by subst h; exact Nat.beq_refl a⟩
theorem blt_eq (a b : Nat) : Nat.blt a b = decide (a < b) := by rw [Bool.eq_iff_iff, blt_iff]; simp
theorem ble_eq (a b : Nat) : Nat.ble a b = decide (a ≤ b) := by rw [Bool.eq_iff_iff, ble_iff]; simp
theorem beq_eq (a b : Nat) : Nat.beq a b = decide (a = b) := by rw [Bool.eq_iff_iff, beq_iff]; simp
theorem cond_some {α : Type} {c : Bool} {x : Option α} {a : α} (h : cond c x none = some a) : c = true ∧ x = some a := by
  cases c with
  | false => cases h
  | true => exact ⟨rfl, h⟩
theorem bind_some {α β : Type} {x : Option α} {f : α → Option β} {b : β} (h : x.bind f = some b) : ∃ a, x = some a ∧ f a = some b := by
  cases x with
  | none => cases h
  | some a => exact ⟨a, rfl, h⟩
theorem map_some {α β : Type} {x : Option α} {f : α → β} {b : β} (h : x.map f = some b) : ∃ a, x = some a ∧ f a = b := by
  cases x with
  | none => cases h
  | some a => exact ⟨a, rfl, Option.some.inj h⟩

theorem intEq_eq (a b : Int) : intEq a b = decide (a = b) := by
  cases a <;> cases b
  · rename_i x y; show Nat.beq x y = _; rw [beq_eq, Bool.eq_iff_iff]; simp only [decide_eq_true_eq, Int.ofNat_eq_natCast]; omega
  · rename_i x y; show false = _; symm; rw [decide_eq_false_iff_not]; exact nofun
  · rename_i x y; show false = _; symm; rw [decide_eq_false_iff_not]; exact nofun
  · rename_i x y; show Nat.beq x y = _; rw [beq_eq, Bool.eq_iff_iff]; simp only [decide_eq_true_eq, Int.negSucc.injEq]
theorem intLt_eq (a b : Int) : intLt a b = decide (a < b) := by
  cases a <;> cases b
  · rename_i x y; show Nat.blt x y = _; rw [blt_eq, Bool.eq_iff_iff]; simp only [decide_eq_true_eq, Int.ofNat_eq_natCast]; omega
  · rename_i x y; show false = _; symm; rw [decide_eq_false_iff_not, Int.ofNat_eq_natCast]; omega
  · rename_i x y; show true = _; symm; rw [decide_eq_true_iff, Int.ofNat_eq_natCast]; omega
  · rename_i x y; show Nat.blt y x = _; rw [blt_eq, Bool.eq_iff_iff]; simp only [decide_eq_true_eq]; omega
theorem half_le (k : IntKind) : half k ≤ 2 ^ k.bits := by cases k <;> (show _ ≤ _; decide)
theorem wrap_small (k : IntKind) (a : Nat) (h : a < half k) : k.wrap (Int.ofNat a) = Int.ofNat a := by
  cases k <;> simp only [half] at h <;> simp [IntKind.wrap, IntKind.bits, IntKind.signed] <;> omega
theorem wrapF_eq (k : IntKind) (n : Int) : wrapF k n = k.wrap n := by
  cases n with
  | ofNat a =>
    show cond (Nat.blt a (half k)) (Int.ofNat a) (k.wrap (.ofNat a)) = _
    cases h : Nat.blt a (half k) with
    | false => rfl
    | true => rw [blt_iff] at h; exact (wrap_small k a h).symm
  | negSucc a => rfl
theorem kn_inj {j k : IntKind} (h : Nat.beq (kn j) (kn k) = true) : j = k := by
  cases j <;> cases k <;> first | rfl | (exact absurd h (by decide))

section
variable {P : Program} {φ : Nat → Option (Blk × Nat)} {H : Hp} {w : World}

/-! ## binary operations of numbers -/
theorem int2_some {f : IntKind → Int → Int → Option AV} {x y v : AV} (h : int2 f x y = some v) : ∃ k a b, x = .int k a ∧ y = .int k b ∧ f k a b = some v := by
  unfold int2 at h
  split at h
  · rename_i k a k' b
    obtain ⟨h1, h2⟩ := cond_some h
    obtain rfl := kn_inj h1
    exact ⟨_, _, _, rfl, rfl, h2⟩
  · cases h
theorem bits_nat (op : BinOp) (k : IntKind) (x y : Nat) (hx : x < 2 ^ k.bits) (hy : y < 2 ^ k.bits) (f : Nat → Nat → Nat)
    (hf : (op = .and ∧ f = Nat.land) ∨ (op = .or ∧ f = Nat.lor) ∨ (op = .xor ∧ f = Nat.xor)) : bits op k (Int.ofNat x) (Int.ofNat y) = k.wrap (Int.ofNat (f x y)) := by
  have ex : (BitVec.ofInt k.bits (Int.ofNat x)).toNat = x := by
    rw [Int.ofNat_eq_natCast, BitVec.ofInt_natCast, BitVec.toNat_ofNat]; exact Nat.mod_eq_of_lt hx
  have ey : (BitVec.ofInt k.bits (Int.ofNat y)).toNat = y := by
    rw [Int.ofNat_eq_natCast, BitVec.ofInt_natCast, BitVec.toNat_ofNat]; exact Nat.mod_eq_of_lt hy
  rcases hf with ⟨rfl, rfl⟩ | ⟨rfl, rfl⟩ | ⟨rfl, rfl⟩
  · show k.wrap ((BitVec.ofInt k.bits (Int.ofNat x) &&& BitVec.ofInt k.bits (Int.ofNat y)).toNat : Int) = _
    rw [BitVec.toNat_and, ex, ey]; rfl
  · show k.wrap ((BitVec.ofInt k.bits (Int.ofNat x) ||| BitVec.ofInt k.bits (Int.ofNat y)).toNat : Int) = _
    rw [BitVec.toNat_or, ex, ey]; rfl
  · show k.wrap ((BitVec.ofInt k.bits (Int.ofNat x) ^^^ BitVec.ofInt k.bits (Int.ofNat y)).toNat : Int) = _
    rw [BitVec.toNat_xor, ex, ey]; rfl
theorem nat2_some {f : Nat → Nat → Nat} {k : IntKind} {a b : Int} {v : AV} (h : nat2 f k a b = some v) : ∃ x y, a = Int.ofNat x ∧ b = Int.ofNat y ∧ x < 2 ^ k.bits ∧ y < 2 ^ k.bits ∧ v = .int k (k.wrap (Int.ofNat (f x y))) := by
  unfold nat2 at h
  split at h
  · rename_i x y
    obtain ⟨h1, h2⟩ := cond_some h
    simp only [Bool.and_eq_true, blt_iff] at h1
    have := half_le k
    exact ⟨x, y, rfl, rfl, by omega, by omega, by rw [← Option.some.inj h2, wrapF_eq]⟩
  · cases h
theorem intBin_ok {op : BinOp} {t : TypeId} {f : IntKind → Int → Int → Option AV} {k : IntKind} {a b : Int} {v : AV} (hf : intBin op = some f) (hv : f k a b = some v) :
    ∃ cv, (binOp op t (.int k a) (.int k b)).run P w = .ok cv w ∧ Rel φ v cv := by
  cases op <;> simp only [intBin, Option.some.injEq, reduceCtorEq] at hf <;> subst hf
  case add => simp only [addF, Option.some.injEq] at hv; subst hv; exact ⟨_, by rw [binOp_add]; simp [Op.intArith]; rfl, by rw [wrapF_eq]; exact .int _ _⟩
  case sub => simp only [subF, Option.some.injEq] at hv; subst hv; exact ⟨_, by rw [binOp_sub]; simp [Op.intArith]; rfl, by rw [wrapF_eq]; exact .int _ _⟩
  case mul => simp only [mulF, Option.some.injEq] at hv; subst hv; exact ⟨_, by rw [binOp_mul]; simp [Op.intArith]; rfl, by rw [wrapF_eq]; exact .int _ _⟩
  case quo =>
    unfold quoF at hv
    split at hv
    · rename_i x y
      simp only [Option.some.injEq] at hv; subst hv
      refine ⟨.int k (k.wrap ((Int.ofNat x).tdiv (Int.ofNat (y + 1)))), ?_, by rw [wrapF_eq]; exact .int _ _⟩
      rw [binOp_quo]; unfold Op.intDiv; rw [if_neg (by simp; omega)]; rfl
    · cases hv
  case rem =>
    unfold remF at hv
    split at hv
    · rename_i x y
      simp only [Option.some.injEq] at hv; subst hv
      refine ⟨.int k ((Int.ofNat x).tmod (Int.ofNat (y + 1))), ?_, .int _ _⟩
      rw [binOp_rem]; unfold Op.intDiv; rw [if_neg (by simp; omega)]; rfl
    · cases hv
  case and =>
    obtain ⟨x, y, rfl, rfl, h1, h2, rfl⟩ := nat2_some hv
    exact ⟨_, by rw [binOp_and, intBits_and, bits_nat .and k x y h1 h2 Nat.land (.inl ⟨rfl, rfl⟩)]; rfl, .int _ _⟩
  case or =>
    obtain ⟨x, y, rfl, rfl, h1, h2, rfl⟩ := nat2_some hv
    exact ⟨_, by rw [binOp_or, intBits_or, bits_nat .or k x y h1 h2 Nat.lor (.inr (.inl ⟨rfl, rfl⟩))]; rfl, .int _ _⟩
  case xor =>
    obtain ⟨x, y, rfl, rfl, h1, h2, rfl⟩ := nat2_some hv
    exact ⟨_, by rw [binOp_xor, intBits_xor, bits_nat .xor k x y h1 h2 Nat.xor (.inr (.inr ⟨rfl, rfl⟩))]; rfl, .int _ _⟩
  case eql => simp only [Option.some.injEq] at hv; subst hv; exact ⟨_, by rw [binOp_eql]; rfl, by rw [intEq_eq, show (a == b) = decide (a = b) by rw [Bool.eq_iff_iff]; simp]; exact .bool _⟩
  case neq => simp only [Option.some.injEq] at hv; subst hv; exact ⟨_, by rw [binOp_neq]; rfl, by rw [intEq_eq, show (a != b) = !decide (a = b) by rw [Bool.eq_iff_iff]; simp]; exact .bool _⟩
  case lss => simp only [Option.some.injEq] at hv; subst hv; exact ⟨_, by rw [binOp_lss]; rfl, by rw [intLt_eq]; exact .bool _⟩
  case leq => simp only [Option.some.injEq] at hv; subst hv; exact ⟨_, by rw [binOp_leq]; rfl, by rw [intLt_eq, intEq_eq, show decide (a ≤ b) = (decide (a < b) || decide (a = b)) by rw [Bool.eq_iff_iff]; simp; omega]; exact .bool _⟩
  case gtr => simp only [Option.some.injEq] at hv; subst hv; exact ⟨_, by rw [binOp_gtr]; rfl, by rw [intLt_eq, intEq_eq, show decide (a > b) = !(decide (a < b) || decide (a = b)) by rw [Bool.eq_iff_iff]; simp; omega]; exact .bool _⟩
  case geq => simp only [Option.some.injEq] at hv; subst hv; exact ⟨_, by rw [binOp_geq]; rfl, by rw [intLt_eq, show decide (a ≥ b) = !decide (a < b) by rw [Bool.eq_iff_iff]; simp]; exact .bool _⟩
theorem minB_eq (k : IntKind) (y : Nat) : minB k y = min y k.bits := by
  unfold minB
  cases h : Nat.ble y k.bits with
  | true => rw [ble_iff] at h; simp; omega
  | false => have : ¬ y ≤ k.bits := fun hc => by rw [← ble_iff, h] at hc; cases hc
             simp; omega
theorem shl_ok {t : TypeId} {x y v : AV} {cx cy : Value} (h : shlF x y = some v) (rx : Rel φ x cx) (ry : Rel φ y cy) : ∃ cv, (binOp .shl t cx cy).run P w = .ok cv w ∧ Rel φ v cv := by
  unfold shlF at h
  split at h
  · rename_i k a k' b
    cases rx; cases ry
    simp only [Option.some.injEq] at h; subst h
    refine ⟨.int k (k.wrap (Int.ofNat a * 2 ^ (minB k b))), ?_, ?_⟩
    · rw [binOp_shl]; unfold Op.shift; rw [if_neg (by simp)]; simp [minB_eq]
    · rw [wrapF_eq, show a.shiftLeft (minB k b) = a * 2 ^ minB k b from Nat.shiftLeft_eq a _]; exact (show k.wrap (Int.ofNat (a * 2 ^ minB k b)) = k.wrap (Int.ofNat a * 2 ^ minB k b) by simp) ▸ .int _ _
  · cases h
theorem shr_ok {t : TypeId} {x y v : AV} {cx cy : Value} (h : shrF x y = some v) (rx : Rel φ x cx) (ry : Rel φ y cy) : ∃ cv, (binOp .shr t cx cy).run P w = .ok cv w ∧ Rel φ v cv := by
  unfold shrF at h
  split at h
  · rename_i k a k' b
    cases rx; cases ry
    simp only [Option.some.injEq] at h; subst h
    refine ⟨.int k ((Int.ofNat a).fdiv (2 ^ (minB k b))), ?_, ?_⟩
    · rw [binOp_shr]; unfold Op.shift; rw [if_neg (by simp)]; simp [minB_eq]
    · rw [show a.shiftRight (minB k b) = a / 2 ^ minB k b from Nat.shiftRight_eq_div_pow a _]
      have : (Int.ofNat a).fdiv (2 ^ minB k b) = Int.ofNat (a / 2 ^ minB k b) := by
        rw [Int.fdiv_eq_ediv_of_nonneg _ (Int.pow_nonneg (by decide))]; simp
      rw [this]; exact .int _ _
  · cases h

/-! ## texts -/
theorem nat_map_inj : ∀ {l m : List UInt8}, l.map (·.toNat) = m.map (·.toNat) → l = m
  | [], [], _ => rfl
  | [], b :: m, h => by simp at h
  | a :: l, [], h => by simp at h
  | a :: l, b :: m, h => by
    simp only [List.map_cons, List.cons.injEq] at h
    rw [nat_map_inj h.2, UInt8.toNat_inj.1 h.1]
theorem bytesEq_eq : ∀ (l m : List Nat), bytesEq l m = decide (l = m)
  | [], [] => rfl
  | [], b :: m => rfl
  | a :: l, [] => rfl
  | a :: l, b :: m => by
    simp only [bytesEq]
    cases h : Nat.beq a b with
    | true => rw [beq_iff] at h; subst h; simp [bytesEq_eq l m]
    | false => have : a ≠ b := fun hc => by rw [← beq_iff, h] at hc; cases hc
               simp [this]
theorem bytesLess_map : ∀ (l m : List UInt8), bytesLess (l.map (·.toNat)) (m.map (·.toNat)) = Op.bytesLess l m
  | [], [] => rfl
  | _ :: _, [] => rfl
  | [], b :: m => rfl
  | a :: l, b :: m => by
    simp only [List.map_cons, bytesLess, Op.bytesLess]
    cases h : Nat.blt a.toNat b.toNat with
    | true => rw [blt_iff] at h; simp [UInt8.lt_iff_toNat_lt, h]
    | false =>
      have h' : ¬ a.toNat < b.toNat := fun hc => by rw [← blt_iff, h] at hc; cases hc
      cases h2 : Nat.beq a.toNat b.toNat with
      | true =>
        rw [beq_iff] at h2
        have : a = b := UInt8.toNat_inj.1 h2
        subst this
        simp [bytesLess_map l m, UInt8.lt_iff_toNat_lt]
      | false =>
        have h3 : ¬ a = b := fun hc => by subst hc; rw [Nat.beq_refl] at h2; cases h2
        simp [UInt8.lt_iff_toNat_lt, h', h3]
theorem str_len {s : ByteArray} {l : List Nat} (h : s.data.toList.map (·.toNat) = l) : l.length = s.size := by rw [← h, List.length_map]; rfl
theorem strBin_ok {op : BinOp} {t : TypeId} {x y v : AV} {cx cy : Value} (h : strBin op x y = some v) (rx : Rel φ x cx) (ry : Rel φ y cy) (h1 : op ≠ .shl) (h2 : op ≠ .shr) :
    ∃ cv, (binOp op t cx cy).run P w = .ok cv w ∧ Rel φ v cv := by
  unfold strBin at h
  split at h
  · rename_i a b
    cases rx; cases ry
    rename_i s hs s' hs'
    have e1 : s.toList = s.data.toList := ByteArray.toList_eq s
    have e2 : s'.toList = s'.data.toList := ByteArray.toList_eq s'
    have eeq : bytesEq a b = (s.toList == s'.toList) := by
      rw [bytesEq_eq, ← hs, ← hs', e1, e2, Bool.eq_iff_iff]
      simp only [decide_eq_true_eq, beq_iff_eq]
      exact ⟨nat_map_inj, fun h => by rw [h]⟩
    have elt : bytesLess a b = Op.bytesLess s.toList s'.toList := by rw [← hs, ← hs', e1, e2, bytesLess_map]
    cases op <;> simp only [cmpA, Option.some.injEq, reduceCtorEq] at h
    case add =>
      obtain ⟨h3, h4⟩ := cond_some h
      have hlen : a.length + b.length < 9223372036854775808 := by
        rw [blt_iff, lenL_eq, lenL_eq] at h3; exact h3
      obtain rfl := Option.some.inj h4
      refine ⟨.string (s ++ s'), ?_, .str ?_⟩
      · have l1 := str_len hs
        have l2 := str_len hs'
        show (Op.stringOp .add s s').run P w = _
        unfold Op.stringOp
        rw [if_neg (by simp; omega)]; rfl
      · rw [← hs, ← hs']; simp
    case eql => subst h; exact ⟨_, by show (Op.stringOp .eql s s').run P w = _; simp [Op.stringOp]; rfl, by rw [eeq]; exact .bool _⟩
    case neq => subst h; exact ⟨_, by show (Op.stringOp .neq s s').run P w = _; simp only [Op.stringOp, Sem.run_pure]; rfl, by rw [eeq]; exact .bool _⟩
    case lss => subst h; exact ⟨_, by show (Op.stringOp .lss s s').run P w = _; simp only [Op.stringOp, Sem.run_pure]; rfl, by rw [elt]; exact .bool _⟩
    case leq => subst h; exact ⟨_, by show (Op.stringOp .leq s s').run P w = _; simp only [Op.stringOp, Sem.run_pure]; rfl, by rw [elt, eeq]; exact .bool _⟩
    case gtr => subst h; exact ⟨_, by show (Op.stringOp .gtr s s').run P w = _; simp only [Op.stringOp, Sem.run_pure]; rfl, by rw [elt, eeq]; exact .bool _⟩
    case geq => subst h; exact ⟨_, by show (Op.stringOp .geq s s').run P w = _; simp only [Op.stringOp, Sem.run_pure]; rfl, by rw [elt]; exact .bool _⟩
  · cases h
end
end Go.Fx

/-! '==' of other kinds; slices; places. -/
namespace Go.Fx
set_option linter.unusedVariables false
set_option linter.unusedSimpArgs false

section
variable {P : Program} {φ : Nat → Option (Blk × Nat)} {H : Hp} {w : World}

theorem equal_eq (t : TypeId) (x y : Value) : Op.equal t x y = Op.equalIn (9999 + 1) t x y := rfl

/-- '==' and '!=', once 'equal' is known -/
theorem eqs_of {neg : Bool} {t : TypeId} {x y : Value} {r : Bool} (hx : binOp .eql t x y = (do pure (.bool (← Op.equal t x y)))) (hn : binOp .neq t x y = (do pure (.bool (!(← Op.equal t x y)))))
    (h : (Op.equal t x y).run P w = .ok r w) : (binOp (cond neg .neq .eql) t x y).run P w = .ok (.bool (cond neg (!r) r)) w := by
  cases neg
  · show (binOp .eql t x y).run P w = _; rw [hx, Sem.run_bind, h]; rfl
  · show (binOp .neq t x y).run P w = _; rw [hn, Sem.run_bind, h]; rfl
theorem posNeg_some {neg : Bool} {r : Option Bool} {v : AV} (h : posNeg neg r = some v) : ∃ b, r = some b ∧ v = .bool (cond neg (!b) b) := by
  obtain ⟨b, h1, h2⟩ := map_some h; exact ⟨b, h1, h2.symm⟩

theorem equalIn_bool {d : Nat} {t : TypeId} (ht : P.underlying t = some .bool) (a b : Bool) : (Op.equalIn (d + 1) t (.bool a) (.bool b)).run P w = .ok (a == b) w := by
  simp [Op.equalIn, run_underlying ht]
theorem equalIn_int {d : Nat} {t : TypeId} {k : IntKind} (ht : P.underlying t = some (.int k)) (j : IntKind) (a b : Int) : (Op.equalIn (d + 1) t (.int j a) (.int j b)).run P w = .ok (a == b) w := by
  simp [Op.equalIn, run_underlying ht]
theorem equalIn_str {d : Nat} {t : TypeId} (ht : P.underlying t = some .string) (a b : ByteArray) : (Op.equalIn (d + 1) t (.string a) (.string b)).run P w = .ok (a == b) w := by
  simp [Op.equalIn, run_underlying ht]

theorem eq_bool {neg : Bool} {t : TypeId} {x y v : AV} {cx cy : Value} (ht : P.underlying t = some .bool) (h : posNeg neg (boolEq x y) = some v) (rx : Rel φ x cx) (ry : Rel φ y cy) :
    ∃ cv, (binOp (cond neg .neq .eql) t cx cy).run P w = .ok cv w ∧ Rel φ v cv ∧ ∀ op a b, eqGuard op t a b cx cy = pure () := by
  obtain ⟨b, h1, rfl⟩ := posNeg_some h
  unfold boolEq at h1
  split at h1
  · rename_i p q
    cases rx; cases ry
    obtain rfl := Option.some.inj h1
    exact ⟨_, eqs_of (by rfl) (by rfl) (by rw [equal_eq]; exact equalIn_bool ht p q), .bool _, fun op a b => eqGuard_at_bool op t a b _ _⟩
  · cases h1

theorem equalIn_slice {d : Nat} {t e : TypeId} (ht : P.underlying t = some (.slice e)) : (∀ b n c, (Op.equalIn (d + 1) t (.slice none 0 0) (.slice b n c)).run P w = .ok b.isNone w) ∧
    (∀ a n c m l, (Op.equalIn (d + 1) t (.slice (some a) n c) (.slice none m l)).run P w = .ok false w) :=
  ⟨fun b n c => by simp [Op.equalIn, run_underlying ht], fun a n c m l => by simp [Op.equalIn, run_underlying ht]⟩
theorem equalIn_map {d : Nat} {t e e' : TypeId} (ht : P.underlying t = some (.map e e')) : (∀ b, (Op.equalIn (d + 1) t (.map none) (.map b)).run P w = .ok b.isNone w) ∧
    (∀ a, (Op.equalIn (d + 1) t (.map (some a)) (.map none)).run P w = .ok false w) :=
  ⟨fun b => by simp [Op.equalIn, run_underlying ht], fun a => by simp [Op.equalIn, run_underlying ht]⟩
theorem equalIn_func {d : Nat} {t : TypeId} {ps rs : Array TypeId} {v : Bool} (ht : P.underlying t = some (.func ps rs v)) : (Op.equalIn (d + 1) t .nilFunc .nilFunc).run P w = .ok true w ∧
    (∀ f a c, (Op.equalIn (d + 1) t .nilFunc (.func f a c)).run P w = .ok false w) ∧ (∀ f a c, (Op.equalIn (d + 1) t (.func f a c) .nilFunc).run P w = .ok false w) :=
  ⟨by simp [Op.equalIn, run_underlying ht], fun f a c => by simp [Op.equalIn, run_underlying ht], fun f a c => by simp [Op.equalIn, run_underlying ht]⟩
theorem eq_slice {neg : Bool} {t e : TypeId} {x y v : AV} {cx cy : Value} (ht : P.underlying t = some (.slice e)) (h : posNeg neg (nilEq .slice x y) = some v) (rx : Rel φ x cx) (ry : Rel φ y cy) :
    ∃ cv, (binOp (cond neg .neq .eql) t cx cy).run P w = .ok cv w ∧ Rel φ v cv ∧ ∀ op a b, eqGuard op t a b cx cy = pure () := by
  obtain ⟨b, h1, rfl⟩ := posNeg_some h
  have hg : ∀ a n c op x y u, eqGuard op t x y (.slice a n c) u = pure () := fun a n c op x y u => eqGuard_at_slice op t x y u a n c
  unfold nilEq at h1
  split at h1 <;> (try contradiction) <;> simp only [Option.some.injEq, reduceCtorEq] at h1 <;> subst h1 <;> cases rx <;> cases ry
  · exact ⟨_, eqs_of (by rfl) (by rfl) (by rw [equal_eq, (equalIn_slice ht).1]; rfl), .bool _, fun op a b => hg _ _ _ op a b _⟩
  · exact ⟨_, eqs_of (by rfl) (by rfl) (by rw [equal_eq, (equalIn_slice ht).1]; rfl), .bool _, fun op a b => hg _ _ _ op a b _⟩
  · exact ⟨_, eqs_of (by rfl) (by rfl) (by rw [equal_eq, (equalIn_slice ht).1]; rfl), .bool _, fun op a b => hg _ _ _ op a b _⟩
  · exact ⟨_, eqs_of (by rfl) (by rfl) (by rw [equal_eq, (equalIn_slice ht).2]), .bool _, fun op a b => hg _ _ _ op a b _⟩
  · exact ⟨_, eqs_of (by rfl) (by rfl) (by rw [equal_eq, (equalIn_slice ht).2]), .bool _, fun op a b => hg _ _ _ op a b _⟩
theorem eq_map {neg : Bool} {t e e' : TypeId} {x y v : AV} {cx cy : Value} (ht : P.underlying t = some (.map e e')) (h : posNeg neg (nilEq .map x y) = some v) (rx : Rel φ x cx) (ry : Rel φ y cy) :
    ∃ cv, (binOp (cond neg .neq .eql) t cx cy).run P w = .ok cv w ∧ Rel φ v cv ∧ ∀ op a b, eqGuard op t a b cx cy = pure () := by
  obtain ⟨b, h1, rfl⟩ := posNeg_some h
  have hg : ∀ a op x y u, eqGuard op t x y (.map a) u = pure () := fun a op x y u => eqGuard_at_map op t x y u a
  unfold nilEq at h1
  split at h1 <;> (try contradiction) <;> simp only [Option.some.injEq, reduceCtorEq] at h1 <;> subst h1 <;> cases rx <;> cases ry
  · exact ⟨_, eqs_of (by rfl) (by rfl) (by rw [equal_eq, (equalIn_map ht).1]; rfl), .bool _, fun op a b => hg _ op a b _⟩
  · exact ⟨_, eqs_of (by rfl) (by rfl) (by rw [equal_eq, (equalIn_map ht).1]; rfl), .bool _, fun op a b => hg _ op a b _⟩
  · exact ⟨_, eqs_of (by rfl) (by rfl) (by rw [equal_eq, (equalIn_map ht).2]), .bool _, fun op a b => hg _ op a b _⟩
theorem eq_func {neg : Bool} {t : TypeId} {ps rs : Array TypeId} {vd : Bool} {x y v : AV} {cx cy : Value} (ht : P.underlying t = some (.func ps rs vd)) (h : posNeg neg (nilEq .func x y) = some v) (rx : Rel φ x cx) (ry : Rel φ y cy) :
    ∃ cv, (binOp (cond neg .neq .eql) t cx cy).run P w = .ok cv w ∧ Rel φ v cv ∧ ∀ op a b, eqGuard op t a b cx cy = pure () := by
  obtain ⟨b, h1, rfl⟩ := posNeg_some h
  unfold nilEq at h1
  split at h1 <;> (try contradiction) <;> simp only [Option.some.injEq, reduceCtorEq] at h1 <;> subst h1 <;> cases rx <;> cases ry
  · exact ⟨_, eqs_of (by rfl) (by rfl) (by rw [equal_eq, (equalIn_func ht).1]), .bool _, fun op a b => eqGuard_at_nilFunc op t a b _⟩
  · exact ⟨_, eqs_of (by rfl) (by rfl) (by rw [equal_eq, (equalIn_func ht).2.1]), .bool _, fun op a b => eqGuard_at_nilFunc op t a b _⟩
  · exact ⟨_, eqs_of (by rfl) (by rfl) (by rw [equal_eq, (equalIn_func ht).2.2]), .bool _, fun op a b => eqGuard_at_func op t a b _ _ _ _⟩
theorem equalIn_iface {d : Nat} {t : TypeId} {ms : Array (String × TypeId)} (ht : P.underlying t = some (.interface ms)) : (Op.equalIn (d + 1) t .nilIface .nilIface).run P w = .ok true w ∧
    (∀ u x, (Op.equalIn (d + 1) t .nilIface (.iface u x)).run P w = .ok false w) ∧ (∀ u x, (Op.equalIn (d + 1) t (.iface u x) .nilIface).run P w = .ok false w) :=
  ⟨by simp [Op.equalIn, run_underlying ht], fun u x => by simp [Op.equalIn, run_underlying ht], fun u x => by simp [Op.equalIn, run_underlying ht]⟩
theorem eqGuard_nil_cst {op : BinOp} {t : TypeId} {x y : Operand} (h : (isConstO x || isConstO y) = true) : eqGuard op t x y .nilIface .nilIface = pure () := by
  cases x <;> cases y <;> simp [isConstO] at h <;> cases op <;> rfl
theorem eq_iface {neg : Bool} {t : TypeId} {ms : Array (String × TypeId)} {xo yo : Operand} {x y v : AV} {cx cy : Value} (ht : P.underlying t = some (.interface ms))
    (h : posNeg neg (ifaceEq (isConstO xo || isConstO yo) x y) = some v) (rx : Rel φ x cx) (ry : Rel φ y cy) :
    ∃ cv, (binOp (cond neg .neq .eql) t cx cy).run P w = .ok cv w ∧ Rel φ v cv ∧ ∀ op, eqGuard op t xo yo cx cy = pure () := by
  obtain ⟨b, h1, rfl⟩ := posNeg_some h
  unfold ifaceEq at h1
  split at h1
  · obtain ⟨h2, h3⟩ := cond_some h1
    obtain rfl := Option.some.inj h3
    cases rx; cases ry
    exact ⟨_, eqs_of (by rfl) (by rfl) (by rw [equal_eq, (equalIn_iface ht).1]), .bool _, fun op => eqGuard_nil_cst h2⟩
  · obtain rfl := Option.some.inj h1
    cases rx; cases ry
    exact ⟨_, eqs_of (by rfl) (by rfl) (by rw [equal_eq, (equalIn_iface ht).2.1]), .bool _, fun op => eqGuard_nil_iface op t xo yo _ _⟩
  · obtain rfl := Option.some.inj h1
    cases rx; cases ry
    exact ⟨_, eqs_of (by rfl) (by rfl) (by rw [equal_eq, (equalIn_iface ht).2.2]), .bool _, fun op => eqGuard_at_iface op t xo yo _ _ _⟩
  · cases h1

/-! pointers -/
theorem frozen_zero {b off : Nat} {c : Array Value} {e : Nat} {fr : Nat × Nat} (h1 : w.heap[b]? = some (.cells c e fr)) (h2 : fr.2 ≤ 0) : w.frozen? ⟨b, off, none⟩ = false := by
  obtain ⟨lo, hi⟩ := fr
  simp only [World.frozen?, h1]
  simp at h2; simp; omega
theorem run_sameAddr {a b : Addr} {c c' : Array Value} {e e' : Nat} {fr fr' : Nat × Nat} (ha : a.spot = none) (hb : b.spot = none) (h1 : w.heap[a.block]? = some (.cells c e fr)) (h2 : fr.2 ≤ 0)
    (h3 : w.heap[b.block]? = some (.cells c' e' fr')) (h4 : fr'.2 ≤ 0) : (sameAddr a b).run P w = .ok (a == b) w := by
  obtain ⟨ab, ao, as⟩ := a; obtain ⟨bb, bo, bs⟩ := b
  simp only at ha hb h1 h3; subst ha; subst hb
  unfold sameAddr
  by_cases hbl : ab = bb
  · simp [hbl]
  · have f1 : ∀ o, w.frozen? ⟨ab, o, none⟩ = false := fun o => frozen_zero h1 h2
    have f2 : ∀ o, w.frozen? ⟨bb, o, none⟩ = false := fun o => frozen_zero h3 h4
    have s1 : w.shape? ab = some (e, c.size) := by simp [World.shape?, h1]
    have s2 : w.shape? bb = some (e', c'.size) := by simp [World.shape?, h3]
    have hne : ((⟨ab, ao, none⟩ : Addr) == ⟨bb, bo, none⟩) = false := by
      rw [beq_eq_false_iff_ne]; intro hc; exact hbl (congrArg Addr.block hc)
    simp [hbl, f1, f2, noView, viewAt, mayBeOne, stringish, s1, s2, hne]
theorem eq_ptr {neg : Bool} {t e : TypeId} {n : Nat} {x y v : AV} {cx cy : Value} (h : HR φ H w) (ht : P.underlying t = some (.pointer e)) (hn : sizeT P e = some (n + 1))
    (hv : posNeg neg (ptrEq H x y) = some v) (rx : Rel φ x cx) (ry : Rel φ y cy) :
    ∃ cv, (binOp (cond neg .neq .eql) t cx cy).run P w = .ok cv w ∧ Rel φ v cv ∧ ∀ op a b, eqGuard op t a b cx cy = pure () := by
  obtain ⟨b, h1, rfl⟩ := posNeg_some hv
  have hsz : ∃ i, P.info? e = some i ∧ i.size = n + 1 := by
    obtain ⟨i, h2, h3⟩ := map_some hn; exact ⟨i, infoF_some h2, h3⟩
  obtain ⟨inf, hi, hsize⟩ := hsz
  have key : (Op.equal t cx cy).run P w = .ok b w ∧ binOp .eql t cx cy = (do pure (.bool (← Op.equal t cx cy))) ∧ binOp .neq t cx cy = (do pure (.bool (!(← Op.equal t cx cy)))) ∧ ∀ op x y, eqGuard op t x y cx cy = pure () := by
    unfold ptrEq at h1
    split at h1
    · obtain rfl := Option.some.inj h1
      cases rx; cases ry
      exact ⟨by rw [equal_eq]; generalize 9999 = d; simp [Op.equalIn, run_underlying ht], rfl, rfl, fun op x y => eqGuard_at_pointer op t x y _ _⟩
    · obtain rfl := Option.some.inj h1
      cases rx; cases ry
      exact ⟨by rw [equal_eq]; generalize 9999 = d; simp [Op.equalIn, run_underlying ht], rfl, rfl, fun op x y => eqGuard_at_pointer op t x y _ _⟩
    · obtain rfl := Option.some.inj h1
      cases rx; cases ry
      exact ⟨by rw [equal_eq]; generalize 9999 = d; simp [Op.equalIn, run_underlying ht], rfl, rfl, fun op x y => eqGuard_at_pointer op t x y _ _⟩
    · rename_i i o j p
      split at h1
      · rename_i m1 e1 z1 m2 e2 z2 hg1 hg2
        obtain rfl := Option.some.inj h1
        cases rx with
        | ptr ex =>
        cases ry with
        | ptr ey =>
        rename_i qx bx qy byy
        obtain ⟨c1, k1, k2⟩ := h.obj _ _ _ _ hg1 ex
        obtain ⟨c2, k3, k4⟩ := h.obj _ _ _ _ hg2 ey
        cases c1 <;> simp only [RelO] at k2
        cases c2 <;> simp only [RelO] at k4
        have hs := run_sameAddr (P := P) (w := w) (a := bx.at o) (b := byy.at p) rfl rfl k1 (k2.2.2.1 0 rfl).1 k3 ((k4.2.2.1 0 rfl).1)
        have hb : (bx.at o == byy.at p) = (Nat.beq i j && Nat.beq o p) := by
          rw [Bool.eq_iff_iff]
          simp only [beq_iff_eq, Addr.mk.injEq, and_true, Bool.and_eq_true, beq_iff]
          constructor
          · rintro ⟨e1, e2⟩
            obtain rfl := h.inj _ _ _ _ _ _ _ _ hg1 hg2 ex ey e1
            rw [ex] at ey; obtain ⟨rfl, rfl⟩ := Prod.mk.inj (Option.some.inj ey)
            exact ⟨rfl, by omega⟩
          · rintro ⟨rfl, rfl⟩; rw [ex] at ey; obtain ⟨rfl, rfl⟩ := Prod.mk.inj (Option.some.inj ey); exact ⟨rfl, rfl⟩
        refine ⟨?_, rfl, rfl, fun op x y => eqGuard_at_pointer op t x y _ _⟩
        rw [equal_eq]; generalize 9999 = d
        have hso : (sizeOf e).run P w = .ok (n + 1) w := by simp [sizeOf, typeInfo, hi, hsize]
        simp [Op.equalIn, run_underlying ht, hso, hs, hb]
      · cases h1
    · cases h1
  exact ⟨_, eqs_of key.2.1 key.2.2.1 key.1, .bool _, key.2.2.2⟩
end
end Go.Fx

/-! Slices, places, parts. -/
namespace Go.Fx
set_option linter.unusedVariables false
set_option linter.unusedSimpArgs false

section
variable {P : Program} {φ : Nat → Option (Blk × Nat)} {H : Hp} {w : World}

/-- an operand that is there or not -/
inductive RelOpt (φ : Nat → Option (Blk × Nat)) : Option AV → Option Value → Prop where
  | none : RelOpt φ none none
  | some {a : AV} {v : Value} : Rel φ a v → RelOpt φ (some a) (some v)

theorem bound_ok {x : Option AV} {cx : Option Value} {d y n : Nat} (h : boundA x d y = some n) (r : RelOpt φ x cx) (code : BoundsCode) :
    (match cx with | some v => Instr.sliceBound v y code | none => pure d : Sem Nat).run P w = .ok n w ∧ (x.isSome = true → n ≤ y) ∧ (x = none → n = d) := by
  unfold boundA at h
  split at h
  · cases r; obtain rfl := Option.some.inj h; exact ⟨rfl, by simp, fun _ => rfl⟩
  · obtain ⟨h1, h2⟩ := cond_some h
    rw [ble_iff] at h1
    obtain rfl := Option.some.inj h2
    cases r with
    | some r =>
      cases r
      refine ⟨?_, fun _ => h1, by simp⟩
      show (Instr.sliceBound _ y code).run P w = _
      simp [Instr.sliceBound, asIntOf, h1]
  · cases h

theorem sizeOf_run {t : TypeId} {n : Nat} (h : sizeT P t = some n) : (sizeOf t).run P w = .ok n w := by
  obtain ⟨i, h2, h3⟩ := map_some h
  simp [sizeOf, typeInfo, infoF_some h2, h3]
theorem isAgg_run {t : TypeId} {g : Bool} (h : isAggT P t = some g) : (isAgg t).run P w = .ok g w := by
  unfold isAggT at h
  split at h
  · rename_i h1; obtain rfl := Option.some.inj h; simp [isAgg, run_underlying (undF_some h1)]
  · rename_i h1; obtain rfl := Option.some.inj h; simp [isAgg, run_underlying (undF_some h1)]
  · rename_i d hn1 hn2 h1
    obtain rfl := Option.some.inj h
    have hu := undF_some h1
    cases d <;> first | (simp [isAgg, run_underlying hu]; done) | (exact (hn1 _ rfl).elim) | (exact (hn2 _ _ rfl).elim)
  · cases h

theorem sliceStr_ok {t : TypeId} {x v : AV} {lo hi : Option AV} {cx : Value} {clo chi : Option Value} (ht : P.underlying t = some .string) (h : sliceStr lo hi x = some v)
    (rx : Rel φ x cx) (rlo : RelOpt φ lo clo) (rhi : RelOpt φ hi chi) : ∃ cv, (Instr.slice t cx clo chi none).run P w = .ok cv w ∧ Rel φ v cv := by
  unfold sliceStr at h
  split at h
  · rename_i s
    obtain ⟨hh, h1, h⟩ := bind_some h
    obtain ⟨l, h2, h⟩ := bind_some h
    obtain rfl := Option.some.inj h
    cases rx
    rename_i cs hs
    rw [lenL_eq, str_len hs] at h1
    obtain ⟨e1, b1, d1⟩ := bound_ok (P := P) (w := w) h1 rhi .sliceAlen
    obtain ⟨e2, b2, d2⟩ := bound_ok (P := P) (w := w) h2 rlo .sliceB
    have hle : hh ≤ cs.size := by
      cases hi with
      | none => have := d1 rfl; omega
      | some a => exact b1 rfl
    have hl : l ≤ hh := by
      cases lo with
      | none => have := d2 rfl; omega
      | some a => exact b2 rfl
    refine ⟨.string (cs.extract l hh), ?_, .str ?_⟩
    · unfold Instr.slice
      simp only [Sem.run_bind, run_underlying ht, Result.andThen_ok, Option.isSome_none, Bool.false_eq_true, if_false]
      unfold Instr.sliceBounds
      cases rhi <;> cases rlo <;> simp_all
    · rw [Lib.extract_data, ← hs, List.map_take, List.map_drop, List.drop_take]
  · cases h

/-- the bounds of a slice -/
theorem sliceBounds_ok {isSlice : Bool} {len cap h l : Nat} {lo hi : Option AV} {clo chi : Option Value} (h1 : boundA hi len cap = some h) (h2 : boundA lo 0 h = some l) (rlo : RelOpt φ lo clo) (rhi : RelOpt φ hi chi) :
    (Instr.sliceBounds isSlice len cap clo chi none).run P w = .ok (l, h, cap) w := by
  obtain ⟨e1, b1, d1⟩ := bound_ok (P := P) (w := w) h1 rhi (if isSlice then .sliceAcap else .sliceAlen)
  obtain ⟨e2, b2, d2⟩ := bound_ok (P := P) (w := w) h2 rlo .sliceB
  unfold Instr.sliceBounds
  cases rhi <;> cases rlo <;> simp_all
theorem sliceBounds3_ok {len cap h l m : Nat} {lo : Option AV} {hi mx : AV} {clo : Option Value} {chi cmx : Value} (h0 : boundA (some mx) cap cap = some m) (h1 : boundA (some hi) len m = some h) (h2 : boundA lo 0 h = some l)
    (rlo : RelOpt φ lo clo) (rhi : Rel φ hi chi) (rmx : Rel φ mx cmx) : (Instr.sliceBounds true len cap clo (some chi) (some cmx)).run P w = .ok (l, h, m) w := by
  obtain ⟨e0, _, _⟩ := bound_ok (P := P) (w := w) h0 (.some rmx) .slice3Acap
  obtain ⟨e1, b1, d1⟩ := bound_ok (P := P) (w := w) h1 (.some rhi) .slice3B
  obtain ⟨e2, b2, d2⟩ := bound_ok (P := P) (w := w) h2 rlo .slice3C
  unfold Instr.sliceBounds
  cases rlo <;> simp_all

theorem bound_le {x : Option AV} {d y n : Nat} (h : boundA x d y = some n) (hd : d ≤ y) : n ≤ y := by
  unfold boundA at h
  split at h
  · obtain rfl := Option.some.inj h; exact hd
  · obtain ⟨h1, h2⟩ := cond_some h; rw [ble_iff] at h1; obtain rfl := Option.some.inj h2; exact h1
  · cases h

theorem add_off (b o n : Nat) : (if n = 0 then (⟨b, o, none⟩ : Addr) else ⟨b, o + n, none⟩) = ⟨b, o + n, none⟩ := by split <;> simp_all
theorem sliceArr_ok {t e : TypeId} {n size : Nat} {x v : AV} {lo hi : Option AV} {cx : Value} {clo chi : Option Value} (hs : sizeT P e = some size)
    (ht : P.underlying t = some (.array n e) ∨ ∃ a, P.underlying t = some (.pointer a) ∧ P.underlying a = some (.array n e)) (h : sliceArr size n lo hi x = some v)
    (rx : Rel φ x cx) (rlo : RelOpt φ lo clo) (rhi : RelOpt φ hi chi) : ∃ cv, (Instr.sliceAt t cx clo chi none).run P w = .ok cv w ∧ Rel φ v cv := by
  unfold sliceArr at h
  split at h
  · rename_i i o
    obtain ⟨hh, h1, h⟩ := bind_some h
    obtain ⟨l, h2, h⟩ := bind_some h
    obtain rfl := Option.some.inj h
    cases rx
    rename_i q b hb
    have hle : hh ≤ n := bound_le h1 (Nat.le_refl _)
    have hl : l ≤ hh := bound_le h2 (Nat.zero_le _)
    have hbd := sliceBounds_ok (P := P) (w := w) (isSlice := false) h1 h2 rlo rhi
    refine ⟨.slice (some (if n = l then ⟨b.b, b.base + o, none⟩ else (⟨b.b, b.base + o, none⟩ : Addr).add (l * size))) (hh - l) (n - l), ?_, ?_⟩
    · unfold Instr.sliceAt
      rcases ht with ht | ⟨a, ht, ha⟩
      · simp [run_underlying ht, Instr.sureAddr, hbd, sizeOf_run hs]
      · simp [run_underlying ht, Instr.slice, run_underlying ha, asAddr, hbd, sizeOf_run hs]
    · cases hc : Nat.beq n l with
      | true => rw [beq_iff] at hc; rw [if_pos hc]; exact .slice (cap := .known (n - l)) hb (by omega) rfl (.inl rfl)
      | false =>
        have : ¬ n = l := fun hx => by rw [← beq_iff, hc] at hx; cases hx
        rw [if_neg this, Addr.add_lit]; exact .slice (cap := .known (n - l)) hb (by omega) rfl (.inl (Nat.add_assoc _ _ _))
  · cases h

theorem sliceSl_ok {t e : TypeId} {size : Nat} {x v : AV} {lo hi mx : Option AV} {cx : Value} {clo chi cmx : Option Value} (hs : sizeT P e = some size)
    (ht : P.underlying t = some (.slice e)) (h : sliceSl size lo hi mx x = some v)
    (rx : Rel φ x cx) (rlo : RelOpt φ lo clo) (rhi : RelOpt φ hi chi) (rmx : RelOpt φ mx cmx) : ∃ cv, (Instr.sliceAt t cx clo chi cmx).run P w = .ok cv w ∧ Rel φ v cv := by
  unfold sliceSl at h
  have hat : Instr.sliceAt t cx clo chi cmx = Instr.sliceAt t cx clo chi cmx := rfl
  split at h
  · -- a known capacity
    rename_i i o len c
    cases rx
    rename_i q b cc o' hb hlen hcap haddr
    obtain rfl : cc = c := hcap
    obtain rfl : o' = b.base + o := by
      rcases haddr with h | ⟨_, _, h⟩
      · exact h
      · cases h
    split at h
    · rename_i m
      obtain ⟨m', h0, h⟩ := bind_some h
      obtain ⟨hsome, h⟩ := cond_some h
      obtain ⟨hh, h1, h⟩ := bind_some h
      obtain ⟨l, h2, h⟩ := bind_some h
      obtain rfl := Option.some.inj h
      cases rmx
      rename_i cm rm
      cases hi with
      | none => cases hsome
      | some hi' =>
        cases rhi
        rename_i ch rh
        have hbd := sliceBounds3_ok (P := P) (w := w) h0 h1 h2 rlo rh rm
        have hm : m' ≤ cc := bound_le h0 (Nat.le_refl _)
        have hle : hh ≤ m' := by
          unfold boundA at h1; split at h1
          · cases ‹some hi' = none›
          · obtain ⟨a, b⟩ := cond_some h1; rw [ble_iff] at a; obtain rfl := Option.some.inj b; exact a
          · cases h1
        have hl : l ≤ hh := bound_le h2 (Nat.zero_le _)
        refine ⟨.slice (if m' = l then some ⟨b.b, b.base + o, none⟩ else (some (⟨b.b, b.base + o, none⟩ : Addr)).map (·.add (l * size))) (hh - l) (m' - l), ?_, ?_⟩
        · unfold Instr.sliceAt; simp [run_underlying ht, Instr.slice, hbd, sizeOf_run hs]
        · cases hc : Nat.beq m' l with
          | true => rw [beq_iff] at hc; rw [if_pos hc]; exact .slice (cap := .known (m' - l)) hb (by omega) rfl (.inl rfl)
          | false =>
            have : ¬ m' = l := fun hx => by rw [← beq_iff, hc] at hx; cases hx
            rw [if_neg this, Option.map_some, Addr.add_lit]; exact .slice (cap := .known (m' - l)) hb (by omega) rfl (.inl (Nat.add_assoc _ _ _))
    · obtain ⟨hh, h1, h⟩ := bind_some h
      obtain ⟨l, h2, h⟩ := bind_some h
      obtain rfl := Option.some.inj h
      cases rmx
      have hbd := sliceBounds_ok (P := P) (w := w) (isSlice := true) h1 h2 rlo rhi
      have hle : hh ≤ cc := bound_le h1 hlen
      have hl : l ≤ hh := bound_le h2 (Nat.zero_le _)
      refine ⟨.slice (if cc = l then some ⟨b.b, b.base + o, none⟩ else (some (⟨b.b, b.base + o, none⟩ : Addr)).map (·.add (l * size))) (hh - l) (cc - l), ?_, ?_⟩
      · unfold Instr.sliceAt; simp [run_underlying ht, Instr.slice, hbd, sizeOf_run hs]
      · cases hc : Nat.beq cc l with
        | true => rw [beq_iff] at hc; rw [if_pos hc]; exact .slice (cap := .known (cc - l)) hb (by omega) rfl (.inl rfl)
        | false =>
          have : ¬ cc = l := fun hx => by rw [← beq_iff, hc] at hx; cases hx
          rw [if_neg this, Option.map_some, Addr.add_lit]; exact .slice (cap := .known (cc - l)) hb (by omega) rfl (.inl (Nat.add_assoc _ _ _))
  · -- a capacity that is not known
    rename_i i o len d
    cases rx
    rename_i q b cc o' hb hlen hcap haddr
    have hcap : cc + d = q := hcap
    split at h
    · rename_i m
      obtain ⟨hl0, h⟩ := cond_some h
      rw [blt_iff] at hl0
      obtain rfl : o' = b.base + o := by
        rcases haddr with h | ⟨h, _⟩
        · exact h
        · omega
      obtain ⟨m', h0, h⟩ := bind_some h
      obtain ⟨hsome, h⟩ := cond_some h
      obtain ⟨hh, h1, h⟩ := bind_some h
      obtain ⟨l, h2, h⟩ := bind_some h
      obtain rfl := Option.some.inj h
      cases rmx
      rename_i cm rm
      cases hi with
      | none => cases hsome
      | some hi' =>
        cases rhi
        rename_i ch rh
        have hm : m' ≤ len := bound_le h0 (Nat.le_refl _)
        have h0' : boundA (some m) cc cc = some m' := by
          unfold boundA at h0 ⊢
          split at h0
          · cases ‹some m = none›
          · obtain ⟨a, b⟩ := cond_some h0; rw [ble_iff] at a
            have : Nat.ble _ cc = true := (ble_iff _ _).2 (Nat.le_trans a hlen)
            simp only [this, cond_true]; exact b
          · cases h0
        have hbd := sliceBounds3_ok (P := P) (w := w) h0' h1 h2 rlo rh rm
        have hle : hh ≤ m' := by
          unfold boundA at h1; split at h1
          · cases ‹some hi' = none›
          · obtain ⟨a, b⟩ := cond_some h1; rw [ble_iff] at a; obtain rfl := Option.some.inj b; exact a
          · cases h1
        have hl : l ≤ hh := bound_le h2 (Nat.zero_le _)
        refine ⟨.slice (if m' = l then some ⟨b.b, b.base + o, none⟩ else (some (⟨b.b, b.base + o, none⟩ : Addr)).map (·.add (l * size))) (hh - l) (m' - l), ?_, ?_⟩
        · unfold Instr.sliceAt; simp [run_underlying ht, Instr.slice, hbd, sizeOf_run hs]
        · cases hc : Nat.beq m' l with
          | true => rw [beq_iff] at hc; rw [if_pos hc]; exact .slice (cap := .known (m' - l)) hb (by omega) rfl (.inl rfl)
          | false =>
            have : ¬ m' = l := fun hx => by rw [← beq_iff, hc] at hx; cases hx
            rw [if_neg this, Option.map_some, Addr.add_lit]; exact .slice (cap := .known (m' - l)) hb (by omega) rfl (.inl (Nat.add_assoc _ _ _))
    · obtain ⟨hh, h1, h⟩ := bind_some h
      obtain ⟨l, h2, h⟩ := bind_some h
      cases rmx
      have hle : hh ≤ len := bound_le h1 (Nat.le_refl _)
      have hl : l ≤ hh := bound_le h2 (Nat.zero_le _)
      have h1' : boundA hi len cc = some hh := by
        unfold boundA at h1 ⊢
        split at h1
        · exact h1
        · obtain ⟨a, b⟩ := cond_some h1; rw [ble_iff] at a
          have : Nat.ble _ cc = true := (ble_iff _ _).2 (Nat.le_trans a hlen)
          simp only [this, cond_true]; exact b
        · cases h1
      have hbd := sliceBounds_ok (P := P) (w := w) (isSlice := true) h1' h2 rlo rhi
      have hrun : (Instr.sliceAt t (.slice (some ⟨b.b, o', none⟩) len cc) clo chi none).run P w = .ok (.slice (if cc = l then some ⟨b.b, o', none⟩ else (some (⟨b.b, o', none⟩ : Addr)).map (·.add (l * size))) (hh - l) (cc - l)) w := by
        unfold Instr.sliceAt; simp [run_underlying ht, Instr.slice, hbd, sizeOf_run hs]
      refine ⟨_, hrun, ?_⟩
      obtain rfl := Option.some.inj h
      have hrel : Cp.rel (.own (d + l)) (cc - l) q := by show cc - l + (d + l) = q; omega
      by_cases hc : cc = l
      · rw [if_pos hc]
        exact .slice hb (by omega) hrel (.inr ⟨by omega, by omega, rfl⟩)
      · rw [if_neg hc, Option.map_some, Addr.add_lit]
        refine .slice hb (by omega) hrel (.inl ?_)
        rcases haddr with h | ⟨_, h, _⟩
        · omega
        · omega
  · split at h
    · cases h
    · obtain ⟨hh, h1, h⟩ := bind_some h
      obtain ⟨l, h2, h⟩ := bind_some h
      obtain rfl := Option.some.inj h
      cases rx; cases rmx
      have hbd := sliceBounds_ok (P := P) (w := w) (isSlice := true) h1 h2 rlo rhi
      have hle : hh ≤ 0 := bound_le h1 (Nat.le_refl _)
      have hl : l ≤ hh := bound_le h2 (Nat.zero_le _)
      obtain rfl : hh = 0 := by omega
      obtain rfl : l = 0 := by omega
      refine ⟨.slice none 0 0, ?_, .nulSlice⟩
      unfold Instr.sliceAt; simp [run_underlying ht, Instr.slice, hbd, sizeOf_run hs]
  · cases h

/-- operands that are there or not -/
theorem optArgs_ok {lo hi mx : Bool} {l : List AV} {f : Option AV → Option AV → Option AV → AV → Option AV} {v : AV} (h : optArgs lo hi mx l f = some v) :
    ∃ x a b c, f a b c x = some v ∧ a.isSome = lo ∧ b.isSome = hi ∧ c.isSome = mx ∧ l = x :: (a.toList ++ (b.toList ++ c.toList)) := by
  unfold optArgs at h
  split at h
  · exact ⟨_, _, _, _, h, rfl, rfl, rfl, rfl⟩
  · exact ⟨_, _, _, _, h, rfl, rfl, rfl, rfl⟩
  · exact ⟨_, _, _, _, h, rfl, rfl, rfl, rfl⟩
  · exact ⟨_, _, _, _, h, rfl, rfl, rfl, rfl⟩
  · exact ⟨_, _, _, _, h, rfl, rfl, rfl, rfl⟩
  · exact ⟨_, _, _, _, h, rfl, rfl, rfl, rfl⟩
  · cases h

/-! places and parts -/
theorem idxSl_ok {t e : TypeId} {s : Nat} {x ix v : AV} {cx ci : Value} (hs : sizeT P e = some s) (ht : P.underlying t = some (.slice e)) (h : idxSl s x ix = some v) (rx : Rel φ x cx) (ri : Rel φ ix ci) :
    ∃ cv, (Instr.indexAt t cx ci).run P w = .ok cv w ∧ Rel φ v cv := by
  unfold idxSl at h
  split at h
  · rename_i i o len cap k n
    obtain ⟨h1, h2⟩ := cond_some h
    rw [blt_iff] at h1
    obtain rfl := Option.some.inj h2
    cases rx; cases ri
    rename_i q b c o' hb hl hc ho
    obtain rfl : o' = b.base + o := by
      rcases ho with h | ⟨h, _⟩
      · exact h
      · omega
    refine ⟨_, ?_, .ptr hb⟩
    unfold Instr.indexAt
    simp [asIntOf, run_underlying ht, h1, sizeOf_run hs, Addr.add_lit, Nat.add_assoc]
  · cases h
theorem idxArr_ok {t e : TypeId} {s len : Nat} {x ix v : AV} {cx ci : Value} (hs : sizeT P e = some s) (ht : P.underlying t = some (.array len e)) (h : idxArr len s x ix = some v) (rx : Rel φ x cx) (ri : Rel φ ix ci) :
    ∃ cv, (Instr.indexAt t cx ci).run P w = .ok cv w ∧ Rel φ v cv := by
  unfold idxArr at h
  split at h
  · rename_i i o k n
    obtain ⟨h1, h2⟩ := cond_some h
    rw [blt_iff] at h1
    obtain rfl := Option.some.inj h2
    cases rx; cases ri
    rename_i b hb
    refine ⟨_, ?_, .ptr hb⟩
    unfold Instr.indexAt
    simp [asIntOf, run_underlying ht, Instr.sureAddr, h1, sizeOf_run hs, Addr.add_lit, Nat.add_assoc]
  · cases h
theorem indexStr_ok {t : TypeId} {x ix v : AV} {cx ci : Value} (ht : P.underlying t = some .string) (h : indexStr x ix = some v) (rx : Rel φ x cx) (ri : Rel φ ix ci) :
    ∃ cv, (Instr.index t cx ci).run P w = .ok cv w ∧ Rel φ v cv := by
  unfold indexStr at h
  split at h
  · rename_i s k n
    obtain ⟨b, h1, rfl⟩ := map_some h
    cases rx; cases ri
    rename_i cs hs
    have hn : n < cs.size := by
      have := (List.getElem?_eq_some_iff.1 h1).1; rw [str_len hs] at this; exact this
    have hb : (cs[n]).toNat = b := by
      rw [← hs, List.getElem?_map] at h1
      obtain ⟨u, hu, rfl⟩ := map_some h1
      have : cs.data.toList[n]? = some cs[n] := by
        rw [List.getElem?_eq_some_iff]; exact ⟨by rw [Array.length_toList]; exact hn, rfl⟩
      rw [this] at hu; rw [Option.some.inj hu]
    refine ⟨.int .u8 b, ?_, .int _ _⟩
    unfold Instr.index
    simp [asIntOf, run_underlying ht, hn, hb]
  · cases h
theorem part_ok {t : TypeId} {off n : Nat} {g : Bool} {l : List AV} {vs : List Value} {v : AV} (hs : sizeT P t = some n) (hg : isAggT P t = some g) (h : partA off n g l = some v) (r : RelL φ l vs) :
    ∃ cv, (part t vs.toArray off).run P w = .ok cv w ∧ Rel φ v cv := by
  unfold partA at h
  cases g with
  | true =>
    obtain rfl := Option.some.inj h
    refine ⟨.agg ((vs.drop off).take n).toArray, ?_, .agg ((r.drop off).take n).chain⟩
    unfold part
    simp only [Sem.run_bind, isAgg_run hg, Result.andThen_ok, if_true, sizeOf_run hs, Sem.run_pure]
    congr 2
    apply Array.ext'
    simp [Array.toList_extract, List.extract, List.drop_take]
  | false =>
    obtain ⟨cv, h1, h2⟩ := r.get h
    refine ⟨cv, ?_, h2⟩
    unfold part
    simp [isAgg_run hg, h1]
end
end Go.Fx
