import Derived.Test.YtelhhbcccndaaaaGreatDoorXj
/-! Every operation. -/
namespace Go.Fx
set_option linter.unusedVariables false
set_option linter.unusedSimpArgs false

section
variable {P : Program} {φ : Nat → Option (Nat × Nat)} {H : Hp} {w : World}

theorem stepV {s : Sem Value} {v : AV} (h : HR φ H w) (k : ∃ cv, s.run P w = .ok cv w ∧ Rel φ v cv) : StepOk P φ H w ((do pure (.value (← s)) : Sem Next).run P w) (.val v H) := by
  obtain ⟨cv, h1, h2⟩ := k
  exact .pure h (by simp [h1]) h2
theorem stepVOk {s : Sem Value} {r : R} (k : VOk P φ H w s r) : StepOk P φ H w ((do pure (.value (← s)) : Sem Next).run P w) r := by
  obtain ⟨v, H', cv, w', ψ, rfl, h1, h2, h3, h4⟩ := k
  exact .val (.value cv) cv w' ψ (by simp [h1]) (.inl rfl) h2 h3 h4
theorem stepU {s : Sem Unit} {r : R} (k : ∃ H' w', r = .val undefA H' ∧ s.run P w = .ok () w' ∧ HR φ H' w' ∧ Ext φ H w φ H' w') : StepOk P φ H w ((do s; pure .skip : Sem Next).run P w) r := by
  obtain ⟨H', w', rfl, h1, h2, h3⟩ := k
  exact .val .skip undef w' φ (by simp [h1]) (.inr ⟨rfl, rfl⟩) undef_rel h2 h3

variable {ρA : Operand → Option AV} {a : Act}

theorem valO_some {x : Option AV} {r : R} (h : valO x H = some r) : ∃ v, x = some v ∧ r = .val v H := by
  obtain ⟨v, h1, rfl⟩ := map_some h; exact ⟨v, h1, rfl⟩
theorem evalAll_rel {ρ : Operand → Value} (hρ : ∀ x v, ρA x = some v → Rel φ v (ρ x)) : ∀ {xs : List Operand} {l : List AV}, evalAll ρA xs = some l → RelL φ l (xs.map ρ)
  | [], l, h => by obtain rfl := Option.some.inj (show some [] = some l from h); exact .nil
  | x :: xs, l, h => by
    obtain ⟨v, h1, h2⟩ := bind_some (show (ρA x).bind _ = some l from h)
    obtain ⟨m, h3, rfl⟩ := map_some h2
    exact .cons (hρ _ _ h1) (evalAll_rel hρ h3)

theorem relOpt_of {φ : Nat → Option (Nat × Nat)} {x : Option AV} {o : Option Value} (h : x = none ∧ o = none ∨ ∃ v cv, x = some v ∧ o = some cv ∧ Rel φ v cv) : RelOpt φ x o := by
  rcases h with ⟨rfl, rfl⟩ | ⟨v, cv, rfl, rfl, r⟩
  · exact .none
  · exact .some r

/-- what an operation's specification says, at values -/
noncomputable def specA (s : Spec) (ρ : Operand → Option AV) (H : Hp) : Option R := match s with
  | .p1 x f => (ρ x).bind fun a => valO (f a) H
  | .p2 x y f => (ρ x).bind fun a => (ρ y).bind fun b => valO (f a b) H
  | .pl xs f => (evalAll ρ xs).bind fun l => valO (f l) H
  | .l1 x f => (ρ x).bind fun a => valO (f a H) H
  | .l2 x y f => (ρ x).bind fun a => (ρ y).bind fun b => valO (f a b H) H
  | .h0 f => f H
  | .h1 x f => (ρ x).bind fun a => f a H
  | .h2 x y f => (ρ x).bind fun a => (ρ y).bind fun b => f a b H
  | .h3 x y z f => (ρ x).bind fun a => (ρ y).bind fun b => (ρ z).bind fun c => f a b c H
  | .hl xs f => (evalAll ρ xs).bind fun l => f l H
  | .pick c a b => (ρ c).bind fun
    | .bool t => valO (ρ (cond t a b)) H
    | _ => none
  | .bad => none
theorem opA_eq (ρ : Operand → Option AV) (o : Oper) : opA P ρ H o = specA (spec P o) ρ H := rfl

theorem guard_other {op : BinOp} {t : TypeId} {x y : Operand} {u v : Value} (h1 : op ≠ .eql) (h2 : op ≠ .neq) : eqGuard op t x y u v = pure () := by
  cases op <;> first | rfl | exact absurd rfl h1 | exact absurd rfl h2
theorem guard_int {op : BinOp} {t : TypeId} {x y : Operand} {k k' : IntKind} {m n : Int} : eqGuard op t x y (.int k m) (.int k' n) = pure () := by
  cases op <;> rfl
theorem guard_str {op : BinOp} {t : TypeId} {x y : Operand} {m n : ByteArray} : eqGuard op t x y (.string m) (.string n) = pure () := by
  cases op <;> rfl

variable (hρ : ∀ x v, ρA x = some v → Rel φ v (a.eval x))
include hρ

theorem p1_some {x : Operand} {f : AV → Option AV} {r : R} (h : specA (.p1 x f) ρA H = some r) : ∃ v u, Rel φ v (a.eval x) ∧ f v = some u ∧ r = .val u H := by
  obtain ⟨v, h1, h2⟩ := bind_some h
  obtain ⟨u, h3, h4⟩ := valO_some h2
  exact ⟨v, u, hρ _ _ h1, h3, h4⟩
theorem l1_some {x : Operand} {f : AV → Hp → Option AV} {r : R} (h : specA (.l1 x f) ρA H = some r) : ∃ v u, Rel φ v (a.eval x) ∧ f v H = some u ∧ r = .val u H := by
  obtain ⟨v, h1, h2⟩ := bind_some h
  obtain ⟨u, h3, h4⟩ := valO_some h2
  exact ⟨v, u, hρ _ _ h1, h3, h4⟩
theorem p2_some {x y : Operand} {f : AV → AV → Option AV} {r : R} (h : specA (.p2 x y f) ρA H = some r) : ∃ v z u, Rel φ v (a.eval x) ∧ Rel φ z (a.eval y) ∧ f v z = some u ∧ r = .val u H := by
  obtain ⟨v, h1, h2⟩ := bind_some h
  obtain ⟨z, h5, h2⟩ := bind_some h2
  obtain ⟨u, h3, h4⟩ := valO_some h2
  exact ⟨v, z, u, hρ _ _ h1, hρ _ _ h5, h3, h4⟩
theorem l2_some {x y : Operand} {f : AV → AV → Hp → Option AV} {r : R} (h : specA (.l2 x y f) ρA H = some r) : ∃ v z u, Rel φ v (a.eval x) ∧ Rel φ z (a.eval y) ∧ f v z H = some u ∧ r = .val u H := by
  obtain ⟨v, h1, h2⟩ := bind_some h
  obtain ⟨z, h5, h2⟩ := bind_some h2
  obtain ⟨u, h3, h4⟩ := valO_some h2
  exact ⟨v, z, u, hρ _ _ h1, hρ _ _ h5, h3, h4⟩
theorem pl_some {xs : List Operand} {f : List AV → Option AV} {r : R} (h : specA (.pl xs f) ρA H = some r) : ∃ l u, RelL φ l (xs.map a.eval) ∧ f l = some u ∧ r = .val u H := by
  obtain ⟨l, h1, h2⟩ := bind_some h
  obtain ⟨u, h3, h4⟩ := valO_some h2
  exact ⟨l, u, evalAll_rel hρ h1, h3, h4⟩
theorem h1_some {x : Operand} {f : AV → Hp → Option R} {r : R} (h : specA (.h1 x f) ρA H = some r) : ∃ v, Rel φ v (a.eval x) ∧ f v H = some r := by
  obtain ⟨v, h1, h2⟩ := bind_some h
  exact ⟨v, hρ _ _ h1, h2⟩
theorem h2_some {x y : Operand} {f : AV → AV → Hp → Option R} {r : R} (h : specA (.h2 x y f) ρA H = some r) : ∃ v z, Rel φ v (a.eval x) ∧ Rel φ z (a.eval y) ∧ f v z H = some r := by
  obtain ⟨v, h1, h2⟩ := bind_some h
  obtain ⟨z, h5, h2⟩ := bind_some h2
  exact ⟨v, z, hρ _ _ h1, hρ _ _ h5, h2⟩
theorem h3_some {x y z : Operand} {f : AV → AV → AV → Hp → Option R} {r : R} (h : specA (.h3 x y z f) ρA H = some r) : ∃ u v t, Rel φ u (a.eval x) ∧ Rel φ v (a.eval y) ∧ Rel φ t (a.eval z) ∧ f u v t H = some r := by
  obtain ⟨v, h1, h2⟩ := bind_some h
  obtain ⟨z, h5, h2⟩ := bind_some h2
  obtain ⟨t, h6, h2⟩ := bind_some h2
  exact ⟨v, z, t, hρ _ _ h1, hρ _ _ h5, hρ _ _ h6, h2⟩
theorem hl_some {xs : List Operand} {f : List AV → Hp → Option R} {r : R} (h : specA (.hl xs f) ρA H = some r) : ∃ l, RelL φ l (xs.map a.eval) ∧ f l H = some r := by
  obtain ⟨l, h1, h2⟩ := bind_some h
  exact ⟨l, evalAll_rel hρ h1, h2⟩

/-! '==' and its like -/
theorem eqSpec_ok {neg : Bool} {t : TypeId} {x y : Operand} {r : R} (h : HR φ H w) (ho : specA (eqSpec P neg t x y) ρA H = some r) :
    ∃ v cv, r = .val v H ∧ (binOp (cond neg .neq .eql) t (a.eval x) (a.eval y)).run P w = .ok cv w ∧ Rel φ v cv ∧ (eqGuard (cond neg .neq .eql) t x y (a.eval x) (a.eval y)).run P w = .ok () w := by
  unfold eqSpec at ho
  split at ho
  · rename_i ht
    obtain ⟨v, z, u, r1, r2, h1, rfl⟩ := p2_some hρ ho
    obtain ⟨cv, h2, h3, h4⟩ := eq_bool (w := w) (undF_some ht) h1 r1 r2
    exact ⟨u, cv, rfl, h2, h3, by rw [h4]; rfl⟩
  · rename_i e ht
    split at ho
    · rename_i n hn
      obtain ⟨v, z, u, r1, r2, h1, rfl⟩ := l2_some hρ ho
      obtain ⟨cv, h2, h3, h4⟩ := eq_ptr (w := w) h (undF_some ht) hn h1 r1 r2
      exact ⟨u, cv, rfl, h2, h3, by rw [h4]; rfl⟩
    · cases ho
  · rename_i ht
    obtain ⟨v, z, u, r1, r2, h1, rfl⟩ := p2_some hρ ho
    obtain ⟨cv, h2, h3, h4⟩ := eq_iface (w := w) (undF_some ht) h1 r1 r2
    exact ⟨u, cv, rfl, h2, h3, by rw [h4]; rfl⟩
  · rename_i ht
    obtain ⟨v, z, u, r1, r2, h1, rfl⟩ := p2_some hρ ho
    obtain ⟨cv, h2, h3, h4⟩ := eq_slice (w := w) (undF_some ht) h1 r1 r2
    exact ⟨u, cv, rfl, h2, h3, by rw [h4]; rfl⟩
  · rename_i ht
    obtain ⟨v, z, u, r1, r2, h1, rfl⟩ := p2_some hρ ho
    obtain ⟨cv, h2, h3, h4⟩ := eq_map (w := w) (undF_some ht) h1 r1 r2
    exact ⟨u, cv, rfl, h2, h3, by rw [h4]; rfl⟩
  · rename_i ht
    obtain ⟨v, z, u, r1, r2, h1, rfl⟩ := p2_some hρ ho
    obtain ⟨cv, h2, h3, h4⟩ := eq_func (w := w) (undF_some ht) h1 r1 r2
    exact ⟨u, cv, rfl, h2, h3, by rw [h4]; rfl⟩
  · rename_i fs ht
    split at ho
    · rename_i l hl
      cases hc : (P.eqGuardType P.depth t || P.stoodInHeld t) with
      | true => rw [hc] at ho; cases ho
      | false =>
        rw [hc, cond_false] at ho
        obtain ⟨v, z, u, r1, r2, h1, rfl⟩ := p2_some hρ ho
        obtain ⟨cv, h2, h3, h4⟩ := eq_struct (w := w) (undF_some ht) hl hc h1 r1 r2
        exact ⟨u, cv, rfl, h2, h3, h4 _ _ _⟩
    · cases ho
  · cases ho

theorem binSpec_ok {op : BinOp} {t : TypeId} {x y : Operand} {r : R} (h : HR φ H w) (ho : specA (binSpec P op t x y) ρA H = some r) :
    ∃ v cv, r = .val v H ∧ (binOp op t (a.eval x) (a.eval y)).run P w = .ok cv w ∧ Rel φ v cv ∧ (eqGuard op t x y (a.eval x) (a.eval y)).run P w = .ok () w := by
  unfold binSpec at ho
  split at ho
  · obtain ⟨v, z, u, r1, r2, h1, rfl⟩ := p2_some hρ ho
    obtain ⟨cv, h2, h3⟩ := shl_ok (P := P) (w := w) (t := t) h1 r1 r2
    exact ⟨u, cv, rfl, h2, h3, rfl⟩
  · obtain ⟨v, z, u, r1, r2, h1, rfl⟩ := p2_some hρ ho
    obtain ⟨cv, h2, h3⟩ := shr_ok (P := P) (w := w) (t := t) h1 r1 r2
    exact ⟨u, cv, rfl, h2, h3, rfl⟩
  · rename_i n1 n2
    split at ho
    · rename_i k hk
      split at ho
      · rename_i f hf
        obtain ⟨v, z, u, r1, r2, h1, rfl⟩ := p2_some hρ ho
        obtain ⟨k', m, n, rfl, rfl, h2⟩ := int2_some h1
        generalize a.eval x = cx at r1 ⊢
        generalize a.eval y = cy at r2 ⊢
        cases r1; cases r2
        obtain ⟨cv, h3, h4⟩ := intBin_ok (P := P) (φ := φ) (w := w) (t := t) hf h2
        exact ⟨u, cv, rfl, h3, h4, by rw [guard_int]; rfl⟩
      · cases ho
    · rename_i hk
      obtain ⟨v, z, u, r1, r2, h1, rfl⟩ := p2_some hρ ho
      obtain ⟨cv, h2, h3⟩ := strBin_ok (P := P) (w := w) (t := t) h1 r1 r2 n1 n2
      refine ⟨u, cv, rfl, h2, h3, ?_⟩
      have : ∃ p q, v = .str p ∧ z = .str q := by
        unfold strBin at h1
        split at h1
        · exact ⟨_, _, rfl, rfl⟩
        · cases h1
      obtain ⟨p, q, rfl, rfl⟩ := this
      generalize a.eval x = cx at r1 ⊢
      generalize a.eval y = cy at r2 ⊢
      cases r1; cases r2
      rw [guard_str]; rfl
    · split at ho
      · exact eqSpec_ok hρ (neg := false) h ho
      · exact eqSpec_ok hρ (neg := true) h ho
      · cases ho

omit hρ in
theorem optArgs_rel {lo hi mx : Option Operand} {x : Operand} {l : List AV} (r : RelL φ l ((x :: (optL lo ++ (optL hi ++ optL mx))).map a.eval)) {f : Option AV → Option AV → Option AV → AV → Option AV} {v : AV}
    (h : optArgs lo.isSome hi.isSome mx.isSome l f = some v) : ∃ xa loA hiA mxA, f loA hiA mxA xa = some v ∧ Rel φ xa (a.eval x) ∧ RelOpt φ loA (lo.map a.eval) ∧ RelOpt φ hiA (hi.map a.eval) ∧ RelOpt φ mxA (mx.map a.eval) := by
  obtain ⟨xa, la, ha, ma, h1, e1, e2, e3, rfl⟩ := optArgs_ok h
  refine ⟨xa, la, ha, ma, h1, ?_⟩
  cases lo <;> cases la <;> simp only [Option.isSome, reduceCtorEq] at e1 <;> cases hi <;> cases ha <;> simp only [Option.isSome, reduceCtorEq] at e2 <;> cases mx <;> cases ma <;> simp only [Option.isSome, reduceCtorEq] at e3
  all_goals
    simp only [optL, Option.toList, List.nil_append, List.append_nil, List.cons_append, List.map_cons, List.map_nil] at r
    cases r with | cons r1 r =>
  all_goals first
    | (cases r with | nil => exact ⟨r1, .none, .none, .none⟩)
    | (cases r with | cons r2 r => cases r with
        | nil => first | exact ⟨r1, .some r2, .none, .none⟩ | exact ⟨r1, .none, .some r2, .none⟩ | exact ⟨r1, .none, .none, .some r2⟩)
    | (cases r with | cons r2 r => cases r with | cons r3 r => cases r with
        | nil => first | exact ⟨r1, .some r2, .some r3, .none⟩ | exact ⟨r1, .some r2, .none, .some r3⟩ | exact ⟨r1, .none, .some r2, .some r3⟩)
    | (cases r with | cons r2 r => cases r with | cons r3 r => cases r with | cons r4 r => exact ⟨r1, .some r2, .some r3, .some r4⟩)

omit hρ in
theorem eval_func (f : FuncId) : a.eval (.func f) = .func (.func f) #[] #[] := rfl

theorem builtin_ok {b : Builtin} {tys : List TypeId} {args : List Operand} {ty : TypeId} {consts : Array Bool} {r : R} (h : HR φ H w) (ho : specA (builtinSpec P b tys args) ρA H = some r) :
    StepOk P φ H w ((builtin b tys.toArray ty consts (args.map a.eval).toArray).run P w) r := by
  cases b <;> simp only [builtinSpec] at ho
  case append =>
    split at ho
    · rename_i t u s x
      split at ho
      · rename_i e e' ht hu
        split at ho
        · rename_i n b z he
          obtain ⟨v, y, r1, r2, h1⟩ := h2_some hρ ho
          exact stepVOk (append_ok (undF_some ht) ⟨_, undF_some hu, fun _ => nofun⟩ he h h1 r1 r2)
        · cases ho
      · rename_i e ht hu
        split at ho
        · rename_i n b z he
          obtain ⟨v, y, r1, r2, h1⟩ := h2_some hρ ho
          exact stepVOk (append_ok (undF_some ht) ⟨_, undF_some hu, fun _ => nofun⟩ he h h1 r1 r2)
        · cases ho
      · cases ho
    · cases ho
  case copy =>
    split at ho
    · split at ho
      · rename_i ht
        split at ho
        · rename_i n hn
          obtain ⟨v, y, r1, r2, h1⟩ := h2_some hρ ho
          exact stepVOk (copy_ok (undF_some ht) hn h h1 r1 r2)
        · cases ho
      · cases ho
    · cases ho
  case len =>
    split at ho
    · split at ho
      · rename_i ht
        obtain ⟨v, u, r1, h1, rfl⟩ := p1_some hρ ho
        exact stepV h (len_str (undF_some ht) h1 r1)
      · rename_i ht
        obtain ⟨v, u, r1, h1, rfl⟩ := p1_some hρ ho
        exact stepV h (len_sl (undF_some ht) h1 r1)
      · rename_i ht
        obtain ⟨v, u, r1, h1, rfl⟩ := l1_some hρ ho
        exact stepV h (len_map h (undF_some ht) h1 r1)
      · rename_i ht
        obtain ⟨v, u, r1, h1, rfl⟩ := p1_some hρ ho
        obtain rfl := Option.some.inj h1
        exact stepV h (len_arr (undF_some ht))
      · cases ho
    · cases ho
  case cap =>
    split at ho
    · split at ho
      · rename_i ht
        obtain ⟨v, u, r1, h1, rfl⟩ := p1_some hρ ho
        exact stepV h (cap_sl (undF_some ht) h1 r1)
      · cases ho
    · cases ho
  case clear =>
    split at ho
    · split at ho
      · rename_i ht
        obtain ⟨v, r1, h1⟩ := h1_some hρ ho
        exact stepVOk (clear_map h (undF_some ht) h1 r1)
      · rename_i ht
        split at ho
        · rename_i n b z he
          obtain ⟨v, r1, h1⟩ := h1_some hρ ho
          exact stepVOk (clear_sl h (undF_some ht) he h1 r1)
        · cases ho
      · cases ho
    · cases ho
  case delete =>
    split at ho
    · split at ho
      · rename_i ht
        split at ho
        · rename_i s hs
          obtain ⟨v, y, r1, r2, h1⟩ := h2_some hρ ho
          exact stepVOk (delete_ok h (undF_some ht) hs h1 r1 r2)
        · cases ho
      · cases ho
    · cases ho
  case max =>
    obtain ⟨l, u, r1, h1, rfl⟩ := pl_some hρ ho
    exact stepV h (max_ok h1 r1)
  case min =>
    obtain ⟨l, u, r1, h1, rfl⟩ := pl_some hρ ho
    exact stepV h (min_ok h1 r1)
  all_goals (cases ho; done)

omit hρ in
theorem callV_ok {f : Operand} {args : Array Operand} {tys : Array TypeId} {ty : TypeId} {l : List AV} {r : R} (h : HR φ H w) (ho : callV l H = some r) (rl : RelL φ l ((f :: args.toList).map a.eval)) :
    StepOk P φ H w ((do let d ← (Deferred.ofValue (a.eval f) (args.map a.eval)); invoke d.target d.args : Sem Next).run P w) r := by
  unfold callV at ho
  split at ho
  · rename_i g first captured args'
    obtain rfl := Option.some.inj ho
    rw [List.map_cons] at rl
    generalize a.eval f = cf at rl ⊢
    cases rl with
    | cons r1 r2 =>
      cases r1; rename_i xs ys r3 r4
      refine .enter (xs ++ (args.toList.map a.eval ++ ys)) ?_ ((RelL.of_chain r3).append (r2.append (RelL.of_chain r4)))
      simp only [Deferred.ofValue, Sem.run_bind, Sem.run_pure, Result.andThen_ok, invoke]
      congr 2
      apply Array.ext'
      simp
  · cases ho

/-- every operation -/
theorem opA_ok {o : Oper} {r : R} (h : HR φ H w) (ho : opA P ρA H o = some r) : StepOk P φ H w ((execOp a.eval o).run P w) r := by
  rw [opA_eq] at ho
  obtain ⟨dst, op, ty, pos, after, guard⟩ := o
  unfold execOp
  cases op <;> simp only [spec] at ho
  case move x =>
    obtain ⟨v, u, r1, h1, rfl⟩ := p1_some hρ ho
    obtain rfl := Option.some.inj h1
    exact .pure h rfl r1
  case assign x =>
    obtain ⟨v, u, r1, h1, rfl⟩ := p1_some hρ ho
    obtain rfl := Option.some.inj h1
    exact .pure h rfl r1
  case pick c x y =>
    obtain ⟨v, h1, h2⟩ := bind_some (show (ρA c).bind _ = some r from ho)
    have r1 := hρ _ _ h1
    split at h2
    · rename_i t
      obtain ⟨u, h3, rfl⟩ := valO_some h2
      have r2 := hρ _ _ h3
      simp only
      generalize a.eval c = cv at r1
      cases r1
      cases t with
      | true => exact .pure h (by simp [asBool]) r2
      | false => exact .pure h (by simp [asBool]) r2
    · cases h2
  case alloc e =>
    split at ho
    · rename_i he; exact stepVOk (alloc_ok h he ho)
    · cases ho
  case box e x =>
    obtain ⟨v, r1, h1⟩ := h1_some hρ ho
    exact stepVOk (box_ok h h1 r1)
  case build t ps =>
    split at ho
    · rename_i z fs hz ht
      split at ho
      · rename_i pl hp
        obtain ⟨l, u, r1, h1, rfl⟩ := pl_some hρ ho
        exact stepV h (build_ok (ρ := a.eval) hz (.inl ⟨fs, pl, undF_some ht, hp, rfl⟩) h1 r1)
      · cases ho
    · rename_i z n e hz ht
      split at ho
      · rename_i s hs
        obtain ⟨l, u, r1, h1, rfl⟩ := pl_some hρ ho
        exact stepV h (build_ok (ρ := a.eval) hz (.inr ⟨n, e, s, undF_some ht, hs, rfl⟩) h1 r1)
      · cases ho
    · cases ho
  case buildSlice t len ps =>
    split at ho
    · rename_i e ht
      split at ho
      · rename_i n b z he
        cases hc : Nat.ble (len * n) 16777216 with
        | false => rw [hc] at ho; cases ho
        | true =>
          rw [hc, cond_true] at ho
          obtain ⟨l, r1, h1⟩ := hl_some hρ ho
          exact stepVOk (buildSlice_ok (ρ := a.eval) h (undF_some ht) he hc h1 r1)
      · cases ho
    · cases ho
  case load t x =>
    split at ho
    · rename_i hg
      obtain ⟨v, u, r1, h1, rfl⟩ := l1_some hρ ho
      exact stepV h (load1_ok h hg h1 r1)
    · rename_i n hg hn
      obtain ⟨v, u, r1, h1, rfl⟩ := l1_some hρ ho
      exact stepV h (loadN_ok h hg hn h1 r1)
    · cases ho
  case store t x y =>
    split at ho
    · rename_i n hn
      obtain ⟨v, z, r1, r2, h1⟩ := h2_some hρ ho
      exact stepU (store_op h hn h1 r1 r2)
    · cases ho
  case nilCheck x =>
    obtain ⟨v, u, r1, h1, rfl⟩ := p1_some hρ ho
    obtain ⟨b, o, h2, rfl⟩ := nilCheck_ok h1 r1
    simp only [h2]
    rw [h2] at r1
    exact .pure h rfl r1
  case binOp op t x y =>
    obtain ⟨v, cv, rfl, h2, h3, h4⟩ := binSpec_ok hρ h ho
    refine stepV h ⟨cv, ?_, h3⟩
    simp [h4, h2]
  case unOp op t x =>
    split at ho
    · obtain ⟨v, u, r1, h1, rfl⟩ := p1_some hρ ho
      exact stepV h (not_ok h1 r1)
    · obtain ⟨v, u, r1, h1, rfl⟩ := p1_some hρ ho
      exact stepV h (neg_ok h1 r1)
    · cases ho
  case convert s d x =>
    unfold convSpec at ho
    split at ho
    · rename_i hs hd
      obtain ⟨v, u, r1, h1, rfl⟩ := p1_some hρ ho
      exact stepV h (convInt_ok (undF_some hs) (undF_some hd) h1 r1)
    · rename_i hs hd
      obtain ⟨v, u, r1, h1, rfl⟩ := p1_some hρ ho
      exact stepV h (convStr_ok (undF_some hs) (undF_some hd) h1 r1)
    · rename_i e hs hd
      split at ho
      · rename_i he
        split at ho
        · obtain ⟨v, r1, h1⟩ := h1_some hρ ho
          exact stepVOk (toBytes_ok h (undF_some hs) (undF_some hd) (undF_some he) h1 r1)
        · cases ho
      · cases ho
    · rename_i e hs hd
      split at ho
      · rename_i he
        obtain ⟨v, u, r1, h1, rfl⟩ := l1_some hρ ho
        exact stepV h (ofBytes_ok h (undF_some hs) (undF_some hd) (undF_some he) h1 r1)
      · cases ho
    · cases ho
  case makeInterface t x =>
    split at ho
    · cases ho
    · rename_i d hn ht
      obtain ⟨v, u, r1, h1, rfl⟩ := p1_some hρ ho
      obtain rfl := Option.some.inj h1
      exact stepV h ⟨_, iface_ok (undF_some ht) (fun ms e => hn ms e) r1⟩
    · cases ho
  case makeFunc fn xs ys =>
    obtain ⟨l, u, r1, h1, rfl⟩ := pl_some hρ ho
    obtain rfl := Option.some.inj h1
    refine stepV h ⟨.func fn (xs.map a.eval) (ys.map a.eval), rfl, ?_⟩
    rw [List.map_append] at r1
    have t1 := r1.take xs.size
    have t2 := r1.drop xs.size
    rw [List.take_left' (by simp)] at t1
    rw [List.drop_left' (by simp)] at t2
    have := RelV.func (fn := fn) t1.chain t2.chain
    rw [← Array.toList_map, ← Array.toList_map, Array.toArray_toList, Array.toArray_toList] at this
    exact this
  case makeMap t rv =>
    cases rv with
    | some _ => cases ho
    | none => obtain rfl := Option.some.inj (show some (R.val (.map H.next) (H.new (.map [] 0))) = some r from ho); exact stepVOk (makeMap_ok (t := t) h)
  case makeSlice t l c =>
    split at ho
    · rename_i e ht
      split at ho
      · rename_i n b z he
        obtain ⟨v, u, r1, r2, h1⟩ := h2_some hρ ho
        exact stepVOk (makeSlice_ok h (undF_some ht) he h1 r1 r2)
      · cases ho
    · cases ho
  case slice t x lo hi mx =>
    unfold sliceSpec at ho
    simp only at ho
    split at ho
    · rename_i ht
      split at ho
      · cases ho
      · obtain ⟨l, u, r1, h1, rfl⟩ := pl_some hρ ho
        obtain ⟨xa, la, ha, ma, h2, r2, r3, r4, r5⟩ := optArgs_rel (mx := none) r1 h1
        obtain ⟨cv, g1, g2⟩ := sliceStr_ok (P := P) (w := w) (undF_some ht) h2 r2 r3 r4
        refine stepV h ⟨cv, ?_, g2⟩
        rw [← g1]; unfold Instr.sliceAt; simp [run_underlying (undF_some ht)]
    · rename_i e ht
      split at ho
      · rename_i n hn
        obtain ⟨l, u, r1, h1, rfl⟩ := pl_some hρ ho
        obtain ⟨xa, la, ha, ma, h2, r2, r3, r4, r5⟩ := optArgs_rel r1 h1
        exact stepV h (sliceSl_ok hn (undF_some ht) h2 r2 r3 r4 r5)
      · cases ho
    · rename_i m e ht
      split at ho
      · rename_i n hn
        obtain ⟨l, u, r1, h1, rfl⟩ := pl_some hρ ho
        obtain ⟨xa, la, ha, ma, h2, r2, r3, r4, r5⟩ := optArgs_rel (mx := none) r1 h1
        exact stepV h (sliceArr_ok hn (.inl (undF_some ht)) h2 r2 r3 r4)
      · cases ho
    · rename_i b ht
      split at ho
      · rename_i m e hb
        split at ho
        · rename_i n hn
          obtain ⟨l, u, r1, h1, rfl⟩ := pl_some hρ ho
          obtain ⟨xa, la, ha, ma, h2, r2, r3, r4, r5⟩ := optArgs_rel (mx := none) r1 h1
          exact stepV h (sliceArr_ok hn (.inr ⟨b, undF_some ht, undF_some hb⟩) h2 r2 r3 r4)
        · cases ho
      · cases ho
    · cases ho
  case fieldAddr t x f =>
    split at ho
    · rename_i g hf
      cases hc : Nat.beq g.2.1 0 with
      | true => rw [hc] at ho; cases ho
      | false =>
        rw [hc, cond_false] at ho
        obtain ⟨v, u, r1, h1, rfl⟩ := p1_some hρ ho
        exact stepV h (fieldAddr_ok hf hc h1 r1)
    · cases ho
  case field t x f =>
    split at ho
    · rename_i g hf
      obtain ⟨v, u, r1, h1, rfl⟩ := p1_some hρ ho
      exact stepV h (field_ok hf h1 r1)
    · cases ho
  case indexAddr t x ix =>
    split at ho
    · rename_i len e ht
      split at ho
      · rename_i s hs
        obtain ⟨v, z, u, r1, r2, h1, rfl⟩ := p2_some hρ ho
        exact stepV h (idxArr_ok hs (undF_some ht) h1 r1 r2)
      · cases ho
    · rename_i e ht
      split at ho
      · rename_i s hs
        obtain ⟨v, z, u, r1, r2, h1, rfl⟩ := p2_some hρ ho
        exact stepV h (idxSl_ok hs (undF_some ht) h1 r1 r2)
      · cases ho
    · cases ho
  case index t x ix =>
    split at ho
    · rename_i ht
      obtain ⟨v, z, u, r1, r2, h1, rfl⟩ := p2_some hρ ho
      exact stepV h (indexStr_ok (undF_some ht) h1 r1 r2)
    · rename_i len e ht
      split at ho
      · rename_i s g hs hg
        obtain ⟨v, z, u, r1, r2, h1, rfl⟩ := p2_some hρ ho
        exact stepV h (indexAgg_ok (undF_some ht) hs hg h1 r1 r2)
      · cases ho
    · cases ho
  case lookup t m k ok =>
    split at ho
    · rename_i kt e ht
      split at ho
      · rename_i s z hs hz
        obtain ⟨v, z, u, r1, r2, h1, rfl⟩ := l2_some hρ ho
        exact stepV h (lookup_ok h (undF_some ht) hs hz h1 r1 r2)
      · cases ho
    · cases ho
  case mapUpdate t m k x =>
    split at ho
    · rename_i kt e ht
      split at ho
      · rename_i s hs
        obtain ⟨v, u, y, r1, r2, r3, h1⟩ := h3_some hρ ho
        exact stepU (mapUpdate_ok h (undF_some ht) hs h1 r1 r2 r3)
      · cases ho
    · cases ho
  case range t x =>
    split at ho
    · rename_i kt e ht
      obtain ⟨v, r1, h1⟩ := h1_some hρ ho
      exact stepVOk (range_ok h (undF_some ht) h1 r1)
    · cases ho
  case next it b =>
    cases b with
    | true => cases ho
    | false =>
      obtain ⟨v, r1, h1⟩ := h1_some hρ ho
      exact stepVOk (next_ok h h1 r1)
  case entry it =>
    obtain ⟨v, r1, h1⟩ := h1_some hρ ho
    exact stepVOk (entry_ok h h1 r1)
  case typeAssert x xt as ok =>
    split at ho
    · cases ho
    · rename_i d z hn ht hz
      obtain ⟨v, u, r1, h1, rfl⟩ := p1_some hρ ho
      exact stepV h (assert_ok (undF_some ht) (fun ms e => hn ms e) hz h1 r1)
    · cases ho
  case extract x i =>
    obtain ⟨v, u, r1, h1, rfl⟩ := p1_some hρ ho
    exact stepV h (extract_ok h1 r1)
  case call c =>
    obtain ⟨callee, args, tys⟩ := c
    simp only at ho
    unfold resolve
    cases callee with
    | invoke => cases ho
    | builtin b =>
      have hb := fun consts => builtin_ok hρ (ty := ty) (consts := consts) h ho
      simp only [Array.toArray_toList, ← Array.toList_map] at hb
      simp only [Sem.run_bind, Sem.run_pure, Result.andThen_ok, invoke]
      exact hb _
    | value f =>
      cases f with
      | func g =>
        obtain ⟨l, r1, h1⟩ := hl_some hρ ho
        obtain rfl := Option.some.inj h1
        refine .enter (args.toList.map a.eval) ?_ r1
        simp [eval_func, Deferred.ofValue, invoke]
        rw [← Array.toList_map, Array.toArray_toList]
      | tmp t =>
        obtain ⟨l, r1, h1⟩ := hl_some hρ ho
        exact callV_ok (ty := ty) (tys := tys) h h1 r1
      | const t =>
        obtain ⟨l, r1, h1⟩ := hl_some hρ ho
        exact callV_ok (ty := ty) (tys := tys) h h1 r1
      | global t =>
        obtain ⟨l, r1, h1⟩ := hl_some hρ ho
        exact callV_ok (ty := ty) (tys := tys) h h1 r1
  all_goals (cases ho; done)
end
end Go.Fx
