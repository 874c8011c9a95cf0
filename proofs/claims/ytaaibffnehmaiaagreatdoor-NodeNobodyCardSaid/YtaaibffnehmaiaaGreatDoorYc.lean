import Derived.Test.YtaaibffnehmaiaaGreatDoorYb
import Derived.Shelf.Strings.Repeat
/-! Functions that are summed up: strings.Repeat. -/
namespace Go.Fx
open Go.RowKit Go.Shelf Go.Proofs
set_option linter.unusedVariables false

/-- what is known of a function that is summed up -/
structure Known (P : Program) (f : FuncId) : Prop where
  there : ∃ fn, P.funcs[f]? = some fn ∧ (fn.name == "runtime.NumGoroutine") = false ∧ fn.body.isSome = true


theorem repeatL_map (l : List UInt8) : ∀ c, (Lib.repeatL l c).map (·.toNat) = (List.replicate c (l.map (·.toNat))).flatten
  | 0 => rfl
  | c + 1 => by simp [Lib.repeatL, List.replicate_succ, repeatL_map l c]

theorem repeat_came {P : Program} {ρ : Ren} (L : Lays.n105 P ρ) (X : Builder.Extra P ρ) {f : FuncId} (hf : ρ.f 105 = f) (K : Known P f) :
    ∀ args H v H', xRepeat args H = some (v, H') → ∀ φ w vs, HR φ H w → RelL φ args vs → Came P φ H w f vs v H' := by
  intro args H v H' h φ w vs hH hr
  unfold xRepeat at h
  split at h
  · rename_i s n
    cases hc : (Nat.ble (Nat.mul (lenL s) n) 140737488355328 && Nat.ble n 9223372036854775807) with
    | false => rw [hc] at h; cases h
    | true =>
      rw [hc] at h
      obtain ⟨rfl, rfl⟩ := Prod.mk.inj (Option.some.inj h)
      rw [Bool.and_eq_true, ble_iff, ble_iff] at hc
      cases hr with | cons r1 hr => cases hr with | cons r2 hr => cases hr with | nil =>
      cases r1; rename_i sa ha
      cases r2
      obtain ⟨fn, h1, h2, h3⟩ := K.there
      refine came_below hH h1 h2 h3 ?_
      have hs : lenL s = sa.size := by rw [lenL_eq, ← ha]; simp
      have hc1 : sa.size * n ≤ 140737488355328 := by rw [← hs]; exact hc.1
      have hm := Any.strings_Repeat L X sa n w hc.2 hc1
      rw [hf] at hm
      refine hm.mono fun e w' he => ⟨⟨_, he.1, .str ?_⟩, he.2⟩
      rw [← ha]; simpa using repeatL_map sa.data.toList n
  · cases h
end Go.Fx
